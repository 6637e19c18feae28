/- The reference's words, numbers, places, maps: what the printed functions compute is the console's own. -/
import Derived.Test.YtibakeahgcakmaaGreatDoorURun
import Derived.Test.YtibakeahgcakmaaGreatDoorUDec
import Derived.Test.YtibakeahgcakmaaGreatDoorUPHx3
import Derived.Test.YtibakeahgcakmaaGreatDoorUPHx5
set_option linter.unusedVariables false
set_option linter.unusedSimpArgs false
namespace Go.Proofs.YtibakeahgcakmaaGreatDoor
open Go.Shelf Go.RowKit Go.Proofs.YtibakeahgcakmaaGreatDoorW.PrintWords Go.Proofs.YtibakeahgcakmaaGreatDoorW.PrintLast Go.Proofs.YtibakeahgcakmaaGreatDoorW.PrintMore PF Curve

theorem bytes_ext1 (a b : ByteArray) (h : a.data.toList = b.data.toList) : a = b := by
  cases a; cases b; congr; exact Array.toList_inj.1 h
/-- A word's number; -1: it is none. -/
def numV (l : List UInt8) : Int := (numL l).getD (-1)
theorem refnum_loop (s : ByteArray) : ∀ (j i k : Nat) (x : Int), i + j = s.size → s.size ≤ 10 → 0 ≤ x → x < 10 ^ i → j < k →
    PH.furlonglaw25_number.l0 k s x (i : Int) = some ((runNum (s.data.toList.drop i) x).getD (-1)) := by
  intro j
  induction j with
  | zero =>
    intro i k x hi hs h0 h1 hk
    obtain ⟨k, rfl⟩ : ∃ m, k = m + 1 := ⟨k - 1, by omega⟩
    simp only [PH.furlonglaw25_number.l0]
    rw [if_neg (by omega), List.drop_eq_nil_of_le (by simp; omega)]
    rfl
  | succ j ih =>
    intro i k x hi hs h0 h1 hk
    obtain ⟨k, rfl⟩ : ∃ m, k = m + 1 := ⟨k - 1, by omega⟩
    have hlt : i < s.size := by omega
    obtain ⟨c, hc, hb⟩ := bt_list s i hlt
    have hl : i < s.data.toList.length := by simpa using hlt
    have hd : s.data.toList.drop i = c :: s.data.toList.drop (i + 1) := by
      rw [List.drop_eq_getElem_cons hl]; congr 1
      rw [List.getElem?_eq_getElem hl] at hc; exact Option.some.inj hc
    have hp : (10 : Int) ^ i ≤ 10 ^ 9 := by
      have : (10 : Nat) ^ i ≤ 10 ^ 9 := Nat.pow_le_pow_right (by omega) (by omega)
      exact_mod_cast this
    have hp2 : (10 : Int) ^ (i + 1) = 10 ^ i * 10 := Int.pow_succ _ _
    have hc8 : c.toNat < 256 := c.toNat_lt
    simp only [PH.furlonglaw25_number.l0]
    rw [if_pos (by omega), if_pos (by omega), hb, hd]
    unfold runNum
    by_cases h2 : c.toNat < 48
    · rw [if_pos (by omega), if_pos h2]; rfl
    · rw [if_neg (by omega), if_neg h2]
      by_cases h3 : c.toNat > 57
      · rw [if_pos (by omega), if_pos h3]; rfl
      · rw [if_neg (by omega), if_neg h3, show ((c.toNat : Int) - 48) % 256 = (c.toNat : Int) - 48 by omega, w64 (10 * x) (by omega) (by omega), w64 (10 * x + ((c.toNat : Int) - 48)) (by omega) (by omega), w64 ((i : Int) + 1) (by omega) (by omega)]
        exact ih (i + 1) k _ (by omega) hs (by omega) (by omega) (by omega)
theorem refnumber_eq (s : ByteArray) : PH.furlonglaw25_number.f 20 s = some (numV s.data.toList) := by
  have hl : s.data.toList.length = s.size := by simp
  unfold PH.furlonglaw25_number.f numV numL
  by_cases h1 : s.size < 1
  · have e : s.toList = [] := by
      have := (Lib.bytes_beq_iff s ⟨#[]⟩).2 (bytes_ext1 s ⟨#[]⟩ (by rw [List.eq_nil_of_length_eq_zero (by omega : s.data.toList.length = 0)]))
      simpa using this
    rw [if_pos e, if_neg (by omega)]; simp only [PH.furlonglaw25_number.j0]; rfl
  · have e : ¬ s.toList = [] := by
      intro h
      have h2 : (s.toList == (⟨#[]⟩ : ByteArray).toList) = true := by simp [h]
      have := (Lib.bytes_beq_iff s ⟨#[]⟩).1 h2
      subst this; exact h1 (by decide)
    rw [if_neg e]
    by_cases h2 : (s.size : Int) > 10
    · rw [decide_eq_true h2, if_neg (by omega)]; simp only [PH.furlonglaw25_number.j0]; rfl
    · rw [decide_eq_false h2, if_pos (by omega)]
      simp only [PH.furlonglaw25_number.j0]
      rw [if_neg (show ¬ (false = true) by decide)]
      exact refnum_loop s s.size 0 19 0 (by omega) (by omega) (by omega) (by decide) (by omega)

/-! ### words -/
def mkW (l : List UInt8) : ByteArray := ⟨l.toArray⟩
theorem bl_byte (c : UInt8) : ((c.toNat : Int) = 32 ↔ c = 32) ∧ (((c.toNat : Int) != 9) = !(c == 9)) := by
  refine ⟨⟨fun h => ?_, fun h => by subst h; rfl⟩, ?_⟩
  · exact UInt8.toNat_inj.1 (by show c.toNat = 32; omega)
  · by_cases h : c = 9
    · subst h; rfl
    · have : ¬ (c.toNat : Int) = 9 := fun h' => h (UInt8.toNat_inj.1 (by show c.toNat = 9; omega))
      rw [show (c == 9) = false from beq_eq_false_iff_ne.2 h, Bool.not_false, bne_iff_ne]; exact this
theorem refwords_loop (s : ByteArray) (hs : s.size ≤ 65536) : ∀ (j i at_ k : Nat) (acc : List ByteArray), i + j = s.size → at_ ≤ i → acc.length ≤ i → 2 * j + 3 ≤ k →
    PH.furlonglaw25_words.l0 k s acc (at_ : Int) (i : Int) = some (acc ++ (fl (s.data.toList.drop i) ((s.data.toList.drop at_).take (i - at_))).map mkW) := by
  have hl : s.data.toList.length = s.size := by simp
  have cut : ∀ a b : Nat, a ≤ b → b ≤ s.size → s.extract a b = mkW ((s.data.toList.drop a).take (b - a)) := by
    intro a b h1 h2
    refine bytes_ext1 _ _ ?_
    rw [Lib.extract_data]; rfl
  intro j
  induction j with
  | zero =>
    intro i at_ k acc hi ha hacc hk
    obtain ⟨k, rfl⟩ : ∃ m, k = m + 3 := ⟨k - 3, by omega⟩
    rw [show s.data.toList.drop i = [] from List.drop_eq_nil_of_le (by omega)]
    unfold fl
    simp only [PH.furlonglaw25_words.l0]
    rw [if_pos (by omega), if_neg (by omega)]
    simp only [PH.furlonglaw25_words.j1]
    rw [if_neg (show ¬ (false = true) by decide)]
    by_cases h : at_ = i
    · subst h
      rw [if_neg (by omega), Nat.sub_self, List.take_zero, if_pos rfl, w64 _ (by omega) (by omega)]
      simp only [PH.furlonglaw25_words.l0]
      rw [if_neg (by omega)]; simp
    · have hne : (s.data.toList.drop at_).take (i - at_) ≠ [] := by
        intro h'
        have := congrArg List.length h'
        simp at this; omega
      rw [if_pos (by omega), if_pos (by omega), if_pos (by omega), if_pos (by omega), if_pos (by omega), if_neg hne, Int.toNat_natCast, Int.toNat_natCast, cut at_ i (by omega) (by omega), w64 _ (by omega) (by omega)]
      simp only [PH.furlonglaw25_words.l0]
      rw [if_neg (by omega)]; simp
  | succ j ih =>
    intro i at_ k acc hi ha hacc hk
    obtain ⟨k, rfl⟩ : ∃ m, k = m + 2 := ⟨k - 2, by omega⟩
    have hlt : i < s.size := by omega
    obtain ⟨c, hc, hb⟩ := bt_list s i hlt
    have hl' : i < s.data.toList.length := by omega
    have hd : s.data.toList.drop i = c :: s.data.toList.drop (i + 1) := by
      rw [List.drop_eq_getElem_cons hl']; congr 1
      rw [List.getElem?_eq_getElem hl'] at hc; exact Option.some.inj hc
    have hgrow : (s.data.toList.drop at_).take (i + 1 - at_) = (s.data.toList.drop at_).take (i - at_) ++ [c] := by
      rw [show i + 1 - at_ = (i - at_) + 1 by omega, List.take_add_one]
      congr 1
      rw [List.getElem?_drop, show at_ + (i - at_) = i by omega, hc]; rfl
    have step : ∀ b : Bool, b = !(isBl c) → PH.furlonglaw25_words.j1 (k + 1) s acc (at_ : Int) (i : Int) b = some (acc ++ (fl (c :: s.data.toList.drop (i + 1)) ((s.data.toList.drop at_).take (i - at_))).map mkW) := by
      intro b hb'
      simp only [PH.furlonglaw25_words.j1]
      unfold fl
      by_cases hbl : isBl c = true
      · rw [hb', hbl, if_neg (show ¬ ((!true) = true) by decide), if_pos rfl]
        by_cases h : at_ = i
        · subst h
          rw [if_neg (by omega), Nat.sub_self, List.take_zero, if_pos rfl, w64 _ (by omega) (by omega)]
          have := ih (at_ + 1) (at_ + 1) k acc (by omega) (by omega) (by omega) (by omega)
          rw [Nat.sub_self, List.take_zero] at this
          exact this
        · have hne : (s.data.toList.drop at_).take (i - at_) ≠ [] := by
            intro h'
            have := congrArg List.length h'
            simp at this; omega
          rw [if_pos (by omega), if_pos (by omega), if_pos (by omega), if_pos (by omega), if_pos (by omega), if_neg hne, Int.toNat_natCast, Int.toNat_natCast, cut at_ i (by omega) (by omega), w64 _ (by omega) (by omega)]
          have := ih (i + 1) (i + 1) k (acc ++ [mkW ((s.data.toList.drop at_).take (i - at_))]) (by omega) (by omega) (by simp; omega) (by omega)
          rw [Nat.sub_self, List.take_zero] at this
          refine this.trans ?_
          simp
      · have hbf : isBl c = false := by simpa using hbl
        rw [hb', hbf, if_pos (show (!false) = true by decide), if_neg (show ¬ (false = true) by decide), w64 _ (by omega) (by omega), ← hgrow]
        exact ih (i + 1) at_ k acc (by omega) (by omega) (by omega) (by omega)
    rw [hd]
    simp only [PH.furlonglaw25_words.l0]
    rw [if_pos (by omega), if_pos (by omega), if_pos (by omega), hb]
    obtain ⟨b1, b2⟩ := bl_byte c
    by_cases h32 : c = 32
    · rw [if_pos (b1.2 h32)]; exact step false (by subst h32; decide)
    · rw [if_neg (fun h => h32 (b1.1 h)), b2]
      refine step _ ?_
      unfold isBl
      rw [show (c == 32) = false from beq_eq_false_iff_ne.2 h32, Bool.false_or]
theorem refwords_eq (s : ByteArray) (hs : s.size ≤ 65536) : PH.furlonglaw25_words.f 200000 s = some ((fl s.data.toList []).map mkW) := by
  unfold PH.furlonglaw25_words.f
  have := refwords_loop s hs s.size 0 0 200000 [] (by omega) (by omega) (by simp) (by omega)
  rw [Nat.sub_self, List.take_zero, List.drop_zero] at this
  simpa using this
end Go.Proofs.YtibakeahgcakmaaGreatDoor
/- The reference's place of an index, and its first map: the console's own. -/
set_option linter.unusedVariables false
set_option linter.unusedSimpArgs false
namespace Go.Proofs.YtibakeahgcakmaaGreatDoor
open Go.Shelf Go.RowKit Go.Proofs.YtibakeahgcakmaaGreatDoorW.PrintWords Go.Proofs.YtibakeahgcakmaaGreatDoorW.PrintLast Go.Proofs.YtibakeahgcakmaaGreatDoorW.PrintMore PF Curve

/-! ### the curve: a finer cell lies in its coarser one -/
theorem trn_half {s rx ry x y : Nat} (hx : x < 2 * s) (hy : y < 2 * s) : (trn (2 * s) rx ry x y).1 / 2 = (trn s rx ry (x / 2) (y / 2)).1 ∧ (trn (2 * s) rx ry x y).2 / 2 = (trn s rx ry (x / 2) (y / 2)).2 := by
  unfold trn
  by_cases h : ry = 1
  · simp [h]
  · by_cases h2 : rx = 1
    · simp only [h, h2, if_true, if_false]; omega
    · simp [h, h2]
theorem hil_up : ∀ (n x y : Nat), x < 2 ^ (n + 1) → y < 2 ^ (n + 1) → hil (n + 1) x y / 4 = hil n (x / 2) (y / 2)
  | 0, x, y, hx, hy => by
    have e : hil (0 + 1) x y = dig (x / 2 ^ 0) (y / 2 ^ 0) * 4 ^ 0 + 0 := rfl
    rw [e]
    have := dig_lt (x / 2 ^ 0) (y / 2 ^ 0)
    simp only [Nat.pow_zero, Nat.mul_one, hil] at *; omega
  | n + 1, x, y, hx, hy => by
    have p := pow_pos2 n
    have e2 : (2 : Nat) ^ (n + 1) = 2 * 2 ^ n := by rw [Nat.pow_succ]; omega
    have e4 : (4 : Nat) ^ (n + 1) = 4 * 4 ^ n := by rw [Nat.pow_succ]; omega
    have hxm : x % 2 ^ (n + 1) < 2 ^ (n + 1) := Nat.mod_lt _ (pow_pos2 _)
    have hym : y % 2 ^ (n + 1) < 2 ^ (n + 1) := Nat.mod_lt _ (pow_pos2 _)
    have ht := trn_lt (rx := x / 2 ^ (n + 1)) (ry := y / 2 ^ (n + 1)) hxm hym
    have ih := hil_up n _ _ ht.1 ht.2
    have hh := trn_half (s := 2 ^ n) (rx := x / 2 ^ (n + 1)) (ry := y / 2 ^ (n + 1)) (x := x % 2 ^ (n + 1)) (y := y % 2 ^ (n + 1)) (by omega) (by omega)
    rw [← e2] at hh
    rw [hh.1, hh.2] at ih
    have q : ∀ z : Nat, z / 2 / 2 ^ n = z / 2 ^ (n + 1) := fun z => by rw [Nat.div_div_eq_div_mul, e2]
    have m : ∀ z : Nat, z / 2 % 2 ^ n = z % 2 ^ (n + 1) / 2 := fun z => by rw [e2, Nat.mod_mul_right_div_self]
    conv => lhs; rw [hil]
    conv => rhs; rw [hil]
    rw [q, q, m, m, ← ih]
    generalize hil (n + 1) _ _ = H
    rw [e4]
    generalize dig _ _ = D
    rw [show D * (4 * 4 ^ n) = 4 * (D * 4 ^ n) from by rw [Nat.mul_left_comm]]
    omega
theorem hil_inj {n x y u v : Nat} (hx : x < 2 ^ n) (hy : y < 2 ^ n) (hu : u < 2 ^ n) (hv : v < 2 ^ n) (h : hil n x y = hil n u v) : x = u ∧ y = v := by
  have h1 := deh_hil n x y hx hy
  rw [h, deh_hil n u v hu hv] at h1
  exact ⟨(Prod.mk.inj h1).1.symm, (Prod.mk.inj h1).2.symm⟩
/-- The cell of d at a finer level lies in its cell at the coarser. -/
theorem deh_up (n d : Nat) (hd : d < 4 ^ (n + 1)) : (deh (n + 1) d).1 / 2 = (deh n (d / 4)).1 ∧ (deh (n + 1) d).2 / 2 = (deh n (d / 4)).2 := by
  have e2 : (2 : Nat) ^ (n + 1) = 2 * 2 ^ n := by rw [Nat.pow_succ]; omega
  have e4 : (4 : Nat) ^ (n + 1) = 4 * 4 ^ n := by rw [Nat.pow_succ]; omega
  have l1 := deh_lt (n + 1) d hd
  have hd4 : d / 4 < 4 ^ n := by omega
  have l2 := deh_lt n (d / 4) hd4
  have h1 := hil_up n _ _ l1.1 l1.2
  rw [hil_deh (n + 1) d hd] at h1
  exact hil_inj (by omega) (by omega) l2.1 l2.2 (h1.symm.trans (hil_deh n (d / 4) hd4).symm)

theorem rdec_l1 (d L x y X Y : Nat) (h1 : 1 ≤ L) (h2 : L ≤ 16) (hX : X < 2 ^ L) (hY : Y < 2 ^ L) (hx : X / 2 = x) (hy : Y / 2 = y) :
    ∀ (m kk k : Nat), kk + m = X % 2 + 2 * (Y % 2) → 25 ≤ k → PH.furlongref1_Decode.l1 (k + m + 1) (d : Int) (x : Int) (y : Int) (L : Int) ((hil L X Y : Nat) : Int) (kk : Int) = PH.furlongref1_Decode.l0 k (d : Int) (X : Int) (Y : Int) ((L + 1 : Nat) : Int) := by
  have hp := pow_le L h2
  have e2 : (2 : Nat) ^ L = 2 * 2 ^ (L - 1) := by rw [← Nat.pow_succ']; congr 1; omega
  have hcell : ∀ kk k : Nat, kk < 4 → 25 ≤ k → PF.furlongref1_Cell.f k (wrap64 ((wrap64 (2 * (x : Int))) + (Go.bits .and .i64 (kk : Int) 1))) (wrap64 ((wrap64 (2 * (y : Int))) + ((kk : Int) / 2))) (L : Int) = some (((hil L (2 * x + kk % 2) (2 * y + kk / 2) : Nat) : Int), 0) := by
    intro kk k h h'
    rw [and_one kk (by omega), w64 (2 * (x : Int)) (by omega) (by omega), w64 (2 * (y : Int)) (by omega) (by omega), w64 _ (by omega) (by omega), w64 _ (by omega) (by omega),
      show 2 * (x : Int) + ((kk % 2 : Nat) : Int) = ((2 * x + kk % 2 : Nat) : Int) by omega, show 2 * (y : Int) + (kk : Int) / 2 = ((2 * y + kk / 2 : Nat) : Int) by omega]
    exact refCell_eq L k _ _ h1 h2 (by omega) (by omega) (by omega)
  have hxy : ∀ kk : Nat, kk < 4 → wrap64 ((wrap64 (2 * (x : Int))) + (Go.bits .and .i64 (kk : Int) 1)) = ((2 * x + kk % 2 : Nat) : Int) ∧ wrap64 ((wrap64 (2 * (y : Int))) + ((kk : Int) / 2)) = ((2 * y + kk / 2 : Nat) : Int) := by
    intro kk h
    rw [and_one kk (by omega), w64 (2 * (x : Int)) (by omega) (by omega), w64 (2 * (y : Int)) (by omega) (by omega), w64 _ (by omega) (by omega), w64 _ (by omega) (by omega)]
    omega
  intro m
  induction m with
  | zero =>
    intro kk k hk hf
    have hkk : kk < 4 := by omega
    simp only [PH.furlongref1_Decode.l1, Nat.add_zero]
    rw [if_pos (by omega), hcell kk k hkk hf]
    simp only [Option.bind_some]
    have ex : 2 * x + kk % 2 = X := by omega
    have ey : 2 * y + kk / 2 = Y := by omega
    rw [if_pos (by rw [ex, ey]), (hxy kk hkk).1, (hxy kk hkk).2, ex, ey, w64 _ (by omega) (by omega)]
    rfl
  | succ m ih =>
    intro kk k hk hf
    have hkk : kk < 4 := by omega
    rw [show k + (m + 1) + 1 = (k + m + 1) + 1 by omega]
    simp only [PH.furlongref1_Decode.l1]
    rw [if_pos (by omega), hcell kk (k + m + 1) hkk (by omega)]
    simp only [Option.bind_some]
    have hne : ¬ ((hil L (2 * x + kk % 2) (2 * y + kk / 2) : Nat) : Int) = ((hil L X Y : Nat) : Int) := by
      intro h
      have := hil_inj (n := L) (by omega) (by omega) hX hY (Int.ofNat.inj h)
      omega
    rw [if_neg hne, w64 ((kk : Int) + 1) (by omega) (by omega)]
    have := ih (kk + 1) k (by omega) hf
    exact this
theorem rdec_l0 (d : Nat) (hd : d < 4294967296) : ∀ (j L k : Nat), L + j = 17 → 1 ≤ L → 5 * j + 30 ≤ k →
    PH.furlongref1_Decode.l0 k (d : Int) ((deh (L - 1) (d / 4 ^ (17 - L))).1 : Nat) ((deh (L - 1) (d / 4 ^ (17 - L))).2 : Nat) (L : Int) = some ((((deh 16 d).1 * 65536 : Nat) : Int), (((deh 16 d).2 * 65536 : Nat) : Int), 0) := by
  intro j
  induction j with
  | zero =>
    intro L k hL h1 hk
    obtain rfl : L = 17 := by omega
    obtain ⟨k, rfl⟩ : ∃ m, k = m + 1 := ⟨k - 1, by omega⟩
    have hl := deh_lt 16 d hd
    rw [show d / 4 ^ (17 - 17) = d by simp]
    simp only [PH.furlongref1_Decode.l0]
    rw [if_neg (by omega)]
    show some (wrap64 (((deh 16 d).1 : Nat) * 65536), wrap64 (((deh 16 d).2 : Nat) * 65536), (0 : Int)) = _
    generalize deh 16 d = T at hl ⊢
    have h1 : T.1 < 65536 := hl.1
    have h2 : T.2 < 65536 := hl.2
    rw [w64 _ (by omega) (by omega), w64 _ (by omega) (by omega)]
    simp
  | succ j ih =>
    intro L k hL h1 hk
    have hw : d / 4 ^ (16 - L) < 4 ^ L := by
      rw [Nat.div_lt_iff_lt_mul (pow_pos4 _), ← Nat.pow_add, show L + (16 - L) = 16 by omega]; exact hd
    have e : d / 4 ^ (17 - L) = d / 4 ^ (16 - L) / 4 := by rw [show 17 - L = (16 - L) + 1 by omega, Nat.pow_succ, Nat.div_div_eq_div_mul]
    obtain ⟨n, rfl⟩ : ∃ n, L = n + 1 := ⟨L - 1, by omega⟩
    have hu := deh_up n _ hw
    have hl := deh_lt (n + 1) _ hw
    have hh := hil_deh (n + 1) _ hw
    have hdq : d / 4 ^ (16 - (n + 1)) < 4611686018427387904 := Nat.lt_of_le_of_lt (Nat.div_le_self _ _) (by omega)
    have i2 := fun k hk => ih (n + 1 + 1) k (by omega) (by omega) hk
    rw [show 17 - (n + 1 + 1) = 16 - (n + 1) by omega, show n + 1 + 1 - 1 = n + 1 by omega] at i2
    rw [e, show n + 1 - 1 = n by omega]
    generalize deh (n + 1) (d / 4 ^ (16 - (n + 1))) = T at *
    rw [← hu.1, ← hu.2]
    have hk5 := Nat.mod_lt T.1 (show 0 < 2 by omega)
    have hk6 := Nat.mod_lt T.2 (show 0 < 2 by omega)
    obtain ⟨q, rfl⟩ : ∃ q, k = (q + (T.1 % 2 + 2 * (T.2 % 2)) + 1) + 1 := ⟨k - (T.1 % 2 + 2 * (T.2 % 2)) - 2, by omega⟩
    rw [PH.furlongref1_Decode.l0]
    rw [if_pos (by omega), w64 (2 * ((n + 1 : Nat) : Int)) (by omega) (by omega), w64 (32 - 2 * ((n + 1 : Nat) : Int)) (by omega) (by omega), if_pos (by omega),
      show 32 - 2 * ((n + 1 : Nat) : Int) = ((2 * (16 - (n + 1)) : Nat) : Int) by omega, shr_nat d (2 * (16 - (n + 1))) (by omega), Nat.pow_mul, show (2 : Nat) ^ 2 = 4 from rfl]
    have := rdec_l1 d (n + 1) (T.1 / 2) (T.2 / 2) T.1 T.2 (by omega) (by omega) hl.1 hl.2 rfl rfl (T.1 % 2 + 2 * (T.2 % 2)) 0 q (by omega) (by omega)
    rw [hh] at this
    exact this.trans (i2 q (by omega))
theorem refDecode_eq (d : Int) (h0 : 0 ≤ d) : PH.furlongref1_Decode.f 200 d = some (if d < 4294967296 then ((((deh 16 d.toNat).1 * 65536 : Nat) : Int), (((deh 16 d.toNat).2 * 65536 : Nat) : Int), 0) else (0, 0, 500)) := by
  obtain ⟨n, rfl⟩ := Int.eq_ofNat_of_zero_le h0
  unfold PH.furlongref1_Decode.f
  rw [if_neg (by omega)]
  by_cases h : (n : Int) < 4294967296
  · rw [decide_eq_false (by omega), if_pos h]
    simp only [PH.furlongref1_Decode.j0]
    rw [if_neg (show ¬ (false = true) by decide), Int.toNat_natCast]
    have := rdec_l0 n (by omega) 16 1 199 (by omega) (by omega) (by omega)
    exact this
  · rw [decide_eq_true (by omega), if_neg h]
    simp only [PH.furlongref1_Decode.j0]
    rw [if_pos trivial]

/-! ### the first map -/
theorem refFirst_ok (n : Int) (h0 : 1 ≤ n) (h1 : n ≤ 8) : PH.furlongref1_First.f 30 n = some (1, startsL n, ownersL n, 0) ∧ PH.furlongref1_MapMay.f 60 1 (startsL n) (ownersL n) 8 = some true ∧ (startsL n).Pairwise (· < ·) ∧ (∃ t, startsL n = 0 :: t) := by
  have : n = 1 ∨ n = 2 ∨ n = 3 ∨ n = 4 ∨ n = 5 ∨ n = 6 ∨ n = 7 ∨ n = 8 := by omega
  rcases this with rfl | rfl | rfl | rfl | rfl | rfl | rfl | rfl <;> exact ⟨by decide +kernel, by decide +kernel, by decide +kernel, _, by rfl⟩
theorem refFirst_bad (n : Int) (h : n < 1 ∨ 8 < n) : PH.furlongref1_First.f 30 n = some (0, [], [], 700) := by
  unfold PH.furlongref1_First.f
  by_cases h1 : n < 1
  · rw [if_pos h1]; rfl
  · rw [if_neg h1, decide_eq_true (show n > 8 by omega)]; rfl
theorem refat_loop (S O : List Int) (ep d : Int) (hS : S.length ≤ 100) : ∀ (j i k : Nat), i + j = S.length → i < S.length → j < k →
    PH.furlongref1_at.l0 k d (i : Int) ep S O = some (((i + ((S.drop (i + 1)).takeWhile (· ≤ d)).length : Nat) : Nat) : Int) := by
  intro j
  induction j with
  | zero => intro i k h1 h2; omega
  | succ j ih =>
    intro i k h1 h2 hk
    obtain ⟨k, rfl⟩ : ∃ m, k = m + 1 := ⟨k - 1, by omega⟩
    simp only [PH.furlongref1_at.l0]
    rw [w64 _ (by omega) (by omega)]
    by_cases h : i + 1 < S.length
    · rw [if_pos (by omega), if_pos (by omega), List.drop_eq_getElem_cons h, List.takeWhile_cons]
      have hr : rd S ((i : Int) + 1) = S[i + 1] := by
        unfold rd
        rw [show ((i : Int) + 1).toNat = i + 1 by omega, List.getD_eq_getElem?_getD, List.getElem?_eq_getElem h]; rfl
      rw [hr]
      by_cases hd : S[i + 1] ≤ d
      · rw [if_pos hd, if_pos (by simpa using hd)]
        have := ih (i + 1) k (by omega) h (by omega)
        refine Eq.trans this ?_
        rw [List.length_cons]; congr 2; omega
      · rw [if_neg hd, if_neg (by simpa using hd)]; simp
    · rw [if_neg (by omega), List.drop_eq_nil_of_le (by omega)]; simp
theorem take_count (d : Int) : ∀ S : List Int, S.Pairwise (· < ·) → (S.takeWhile (· ≤ d)).length = S.countP (· < d) + (if S.contains d = true then 1 else 0)
  | [], _ => by simp
  | a :: t, h => by
    obtain ⟨h1, h2⟩ := List.pairwise_cons.1 h
    have ih := take_count d t h2
    rw [List.takeWhile_cons, List.countP_cons]
    by_cases hd : a ≤ d
    · rw [if_pos (by simpa using hd), List.length_cons, ih]
      by_cases he : a = d
      · subst he
        have hc : ¬ a ∈ t := fun hc => by have := h1 a hc; omega
        simp [hc]
      · have : a < d := by omega
        simp only [List.contains_cons, show (d == a) = false from beq_eq_false_iff_ne.2 (fun h => he h.symm), Bool.false_or, decide_eq_true this, if_true]; omega
    · rw [if_neg (by simpa using hd)]
      have h0 : (List.countP (fun x => decide (x < d)) t) = 0 := by
        rw [List.countP_eq_zero]; intro x hx; have := h1 x hx; simp; omega
      have hc : (a :: t).contains d = false := by
        rw [← Bool.not_eq_true]; intro hc
        rcases List.mem_cons.1 (by simpa using hc : d ∈ a :: t) with rfl | hm
        · omega
        · have := h1 d hm; omega
      rw [h0, hc, decide_eq_false (show ¬ a < d by omega)]; simp
theorem refOwner_eq (n d : Int) (h0 : 1 ≤ n) (h1 : n ≤ 8) (hd : 0 ≤ d) : PH.furlongref1_Owner.f 60 1 (startsL n) (ownersL n) d = some (if 4294967296 ≤ d then (0, 700) else (rd (ownersL n) (atI (startsL n) d), 0)) := by
  obtain ⟨_, hm, hp, t, ht⟩ := refFirst_ok n h0 h1
  have hat := at_in n d h0 h1 hd
  have hlen := (first_eq n h0 h1).2.2.2
  unfold PH.furlongref1_Owner.f
  rw [hm]
  simp only [Option.bind_some, if_true]
  rw [if_neg (by omega)]
  by_cases hb : 4294967296 ≤ d
  · rw [if_pos hb, if_pos hb]
  · rw [if_neg hb, if_neg hb]
    have e : PH.furlongref1_at.f 60 1 (startsL n) (ownersL n) d = some (atI (startsL n) d) := by
      unfold PH.furlongref1_at.f
      have hl := refat_loop (startsL n) (ownersL n) 1 d (by omega) (startsL n).length 0 60 (by omega) (by omega) (by omega)
      refine Eq.trans hl ?_
      have hc := take_count d (startsL n) hp
      congr 1
      unfold atI
      rw [ht] at hc ⊢
      rw [List.takeWhile_cons, if_pos (by simpa using hd), List.length_cons] at hc
      rw [show (0 :: t).drop (0 + 1) = t from rfl]
      by_cases hcc : (0 :: t).contains d = true
      · rw [if_pos hcc] at hc ⊢; omega
      · rw [if_neg hcc] at hc ⊢; omega
    rw [e]
    simp only [Option.bind_some]
    rw [if_pos hat.1, if_pos (by rw [hlen.2]; omega)]
end Go.Proofs.YtibakeahgcakmaaGreatDoor
