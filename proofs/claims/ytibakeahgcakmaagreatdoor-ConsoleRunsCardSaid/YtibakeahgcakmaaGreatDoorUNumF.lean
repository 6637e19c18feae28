/- The printed reading of a number tells the plain one. -/
import Derived.Test.YtibakeahgcakmaaGreatDoorUCurveF
import Derived.Test.YtibakeahgcakmaaGreatDoorUPFx6
set_option linter.unusedVariables false
namespace Go.Proofs.YtibakeahgcakmaaGreatDoor
open Go.RowKit Go.Proofs.YtibakeahgcakmaaGreatDoorW.PrintWords Go.Proofs.YtibakeahgcakmaaGreatDoorW.PrintLast Go.Proofs.YtibakeahgcakmaaGreatDoorW.PrintMore PF

/-- A number's digits, read on from x. -/
def runNum : List UInt8 → Int → Option Int
  | [], x => some x
  | c :: t, x => if c.toNat < 48 then none else if c.toNat > 57 then none else runNum t (10 * x + ((c.toNat : Int) - 48))
/-- The number of a word. -/
def numL (l : List UInt8) : Option Int := if 1 ≤ l.length ∧ l.length ≤ 10 then runNum l 0 else none
def numR (l : List UInt8) : Int × Bool := match numL l with | some x => (x, true) | none => (0, false)

theorem bt_list (s : ByteArray) (i : Nat) (h : i < s.size) : ∃ c, s.data.toList[i]? = some c ∧ bt s (i : Int) = (c.toNat : Int) := by
  have hs : i < s.data.toList.length := by simpa using h
  refine ⟨s.data.toList[i], List.getElem?_eq_getElem hs, ?_⟩
  rw [← bt_at s (i : Int) (by simpa using h)]
  simp; rfl

theorem num_loop (s : ByteArray) : ∀ (j i k : Nat) (x : Int), i + j = s.size → s.size ≤ 10 → 0 ≤ x → x < 10 ^ i → j < k →
    console_number.l0 k s x (s.size : Int) (i : Int) = some (match runNum (s.data.toList.drop i) x with | some y => (y, true) | none => (0, false)) := by
  intro j
  induction j with
  | zero =>
    intro i k x hi hs h0 h1 hk
    obtain ⟨k, rfl⟩ : ∃ m, k = m + 1 := ⟨k - 1, by omega⟩
    simp only [console_number.l0]
    rw [if_neg (by omega), List.drop_eq_nil_of_le (by simp; omega)]
    rfl
  | succ j ih =>
    intro i k x hi hs h0 h1 hk
    obtain ⟨k, rfl⟩ : ∃ m, k = m + 1 := ⟨k - 1, by omega⟩
    have hlt : i < s.size := by omega
    obtain ⟨c, hc, hb⟩ := bt_list s i hlt
    have hl : i < s.data.toList.length := by simpa using hlt
    have hd : s.data.toList.drop i = c :: s.data.toList.drop (i + 1) := by
      rw [List.drop_eq_getElem_cons hl]; congr 1
      rw [List.getElem?_eq_getElem hl] at hc; exact Option.some.inj hc
    have hp : (10 : Int) ^ i ≤ 10 ^ 9 := by
      have : (10 : Nat) ^ i ≤ 10 ^ 9 := Nat.pow_le_pow_right (by omega) (by omega)
      exact_mod_cast this
    have hp2 : (10 : Int) ^ (i + 1) = 10 ^ i * 10 := Int.pow_succ _ _
    have hc8 : c.toNat < 256 := c.toNat_lt
    simp only [console_number.l0]
    rw [if_pos (by omega), if_pos (by omega), if_pos (by omega), hb, hd]
    unfold runNum
    by_cases h2 : c.toNat < 48
    · rw [if_pos (by omega), if_pos h2]
    · rw [if_neg (by omega), if_neg h2]
      by_cases h3 : c.toNat > 57
      · rw [if_pos (by omega), if_pos h3]
      · rw [if_neg (by omega), if_neg h3, show ((c.toNat : Int) - 48) % 256 = (c.toNat : Int) - 48 by omega, w64 (10 * x) (by omega) (by omega), w64 (10 * x + ((c.toNat : Int) - 48)) (by omega) (by omega), w64 ((i : Int) + 1) (by omega) (by omega)]
        exact ih (i + 1) k _ (by omega) hs (by omega) (by omega) (by omega)
theorem number_eq (k : Nat) (s : ByteArray) (hk : 14 ≤ k) : console_number.f k s = some (numR s.data.toList) := by
  obtain ⟨k, rfl⟩ : ∃ m, k = m + 1 := ⟨k - 1, by omega⟩
  have hl : s.data.toList.length = s.size := by simp
  unfold console_number.f numR numL
  by_cases h1 : (s.size : Int) < 1
  · rw [if_pos h1, if_neg (by omega)]; simp only [console_number.j0]; rfl
  · rw [if_neg h1]
    by_cases h2 : (s.size : Int) > 10
    · rw [decide_eq_true h2, if_neg (by omega)]; simp only [console_number.j0]; rfl
    · rw [decide_eq_false h2, if_pos (by omega)]
      simp only [console_number.j0]
      rw [if_neg (show ¬ (false = true) by decide)]
      have := num_loop s s.size 0 k 0 (by omega) (by omega) (by omega) (by decide) (by omega)
      exact this
theorem runNum_range : ∀ (l : List UInt8) (x y : Int), 0 ≤ x → runNum l x = some y → x * 10 ^ l.length ≤ y ∧ y < (x + 1) * 10 ^ l.length
  | [], x, y, h0, h => by simp [runNum] at h; subst h; simp; omega
  | c :: t, x, y, h0, h => by
    unfold runNum at h
    split at h
    · cases h
    · split at h
      · cases h
      · have hr := runNum_range t _ y (by omega) h
        rw [List.length_cons, Int.pow_succ]
        have hp : (0 : Int) < 10 ^ t.length := Int.pow_pos (by omega)
        generalize (10 : Int) ^ t.length = p at *
        have e1 : x * (p * 10) = (10 * x) * p := by rw [Int.mul_comm p 10, ← Int.mul_assoc, Int.mul_comm x 10]
        have e2 : (x + 1) * (p * 10) = (10 * x + 10) * p := by rw [Int.mul_comm p 10, ← Int.mul_assoc]; congr 1; omega
        have h3 : (10 * x) * p ≤ (10 * x + ((c.toNat : Int) - 48)) * p := Int.mul_le_mul_of_nonneg_right (by omega) (by omega)
        have h4 : (10 * x + ((c.toNat : Int) - 48) + 1) * p ≤ (10 * x + 10) * p := Int.mul_le_mul_of_nonneg_right (by omega) (by omega)
        omega
theorem numL_range (l : List UInt8) (y : Int) (h : numL l = some y) : 0 ≤ y ∧ y < 10000000000 := by
  unfold numL at h
  split at h
  · rename_i hl
    have hr := runNum_range l 0 y (by omega) h
    have : (10 : Int) ^ l.length ≤ 10 ^ 10 := by
      have : (10 : Nat) ^ l.length ≤ 10 ^ 10 := Nat.pow_le_pow_right (by omega) hl.2
      exact_mod_cast this
    omega
  · cases h
end Go.Proofs.YtibakeahgcakmaaGreatDoor
