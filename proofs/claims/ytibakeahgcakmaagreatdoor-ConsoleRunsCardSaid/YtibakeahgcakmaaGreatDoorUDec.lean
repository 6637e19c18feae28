/- Decimal numbers: Decimal and Itoa write the same text; how a number is read back. -/
import Derived.Test.YtibakeahgcakmaaGreatDoorUPFx9
import Derived.Test.YtibakeahgcakmaaGreatDoorUTell
import Derived.Test.YtibakeahgcakmaaGreatDoorUNumF
set_option linter.unusedVariables false
set_option linter.unusedSimpArgs false
namespace Go.Proofs.YtibakeahgcakmaaGreatDoor
open Go.Shelf Go.RowKit Go.Proofs.YtibakeahgcakmaaGreatDoorW.PrintWords Go.Proofs.YtibakeahgcakmaaGreatDoorW.PrintLast Go.Proofs.YtibakeahgcakmaaGreatDoorW.PrintMore PF Curve

/-- The digits, with fuel. -/
def digF : Nat → Nat → List UInt8
  | 0, u => [UInt8.ofNat (48 + u)]
  | f + 1, u => if u < 10 then [UInt8.ofNat (48 + u)] else digF f (u / 10) ++ [UInt8.ofNat (48 + u % 10)]
theorem digF_eq : ∀ (f u : Nat), u < 10 ^ (f + 1) → Lib.decDigits u = digF f u
  | 0, u, h => by rw [Lib.decDigits, dif_pos (by simpa using h)]; rfl
  | f + 1, u, h => by
    rw [Lib.decDigits, digF]
    by_cases h1 : u < 10
    · rw [dif_pos h1, if_pos h1]
    · rw [dif_neg h1, if_neg h1, digF_eq f (u / 10) (by rw [Nat.pow_succ] at h; omega)]
/-- The text of a number that is not below nought. -/
def txt (n : Nat) : List UInt8 := digF 19 n
theorem itoaB_txt (n : Nat) (h : n < 10 ^ 20) : itoaB (n : Int) = ⟨(txt n).toArray⟩ := by
  unfold itoaB txt Lib.itoa
  rw [if_neg (by omega), Int.toNat_natCast, digF_eq 19 n h]

def decI (u : Nat) : List Int := (Lib.decDigits u).map fun b => (b.toNat : Int)
theorem dig_byte (u : Nat) (h : u < 10) : ((UInt8.ofNat (48 + u)).toNat : Int) = 48 + (u : Int) := by
  have : (UInt8.ofNat (48 + u)).toNat = 48 + u := UInt8.toNat_ofNat_of_lt' (by show 48 + u < 256; omega)
  omega
theorem dec_step (k u : Nat) (x0 : Int) (acc : List Int) (h : 0 < u) (hu : u < 10 ^ 19) (hl : acc.length ≤ 1000) :
    furlongref0_Decimal.l0 (k + 1) x0 (u : Int) acc = furlongref0_Decimal.l0 k x0 ((u / 10 : Nat) : Int) ([48 + ((u % 10 : Nat) : Int)] ++ acc) := by
  have e1 : (u : Int).tmod 10 = ((u % 10 : Nat) : Int) := by rw [Int.tmod_eq_emod_of_nonneg (by omega)]; omega
  have e2 : (u : Int).tdiv 10 = ((u / 10 : Nat) : Int) := by rw [Int.tdiv_eq_ediv_of_nonneg (by omega)]; omega
  have w1 : IntKind.u64.wrap ((u / 10 : Nat) : Int) = ((u / 10 : Nat) : Int) := by rw [IntKind.wrap_u64]; omega
  have w2 : IntKind.u64.wrap (48 + ((u % 10 : Nat) : Int)) % 256 = 48 + ((u % 10 : Nat) : Int) := by rw [IntKind.wrap_u64]; omega
  simp only [furlongref0_Decimal.l0]
  rw [if_pos (by omega), e1, e2, w1, w2]
  simp only [Option.bind_some]
  rw [if_pos (by simp; omega)]
theorem dec_l0 (x0 : Int) (hx : 0 ≤ x0) : ∀ (f u : Nat), 0 < u → u < 10 ^ f → f ≤ 19 → ∀ (acc : List Int) (k : Nat), f + 1 ≤ k → acc.length + f ≤ 1000 →
    furlongref0_Decimal.l0 k x0 (u : Int) acc = some (strOfNums (decI u ++ acc))
  | 0, u, h, h1, _, acc, k, hk, hl => by simp at h1; omega
  | f + 1, u, h, h1, hf, acc, k, hk, hl => by
    obtain ⟨k, rfl⟩ : ∃ m, k = m + 1 := ⟨k - 1, by omega⟩
    have hu : u < 10 ^ 19 := Nat.lt_of_lt_of_le h1 (Nat.pow_le_pow_right (by omega) hf)
    rw [dec_step k u x0 acc h hu (by omega)]
    by_cases h10 : u < 10
    · have e0 : u / 10 = 0 := by omega
      have e1 : u % 10 = u := by omega
      obtain ⟨k, rfl⟩ : ∃ m, k = m + 1 := ⟨k - 1, by omega⟩
      rw [e0, e1]
      have hd : decI u = [48 + (u : Int)] := by
        unfold decI; rw [Lib.decDigits, dif_pos h10]; simp only [List.map_cons, List.map_nil]; rw [dig_byte u h10]
      simp only [furlongref0_Decimal.l0]
      rw [if_neg (by decide), if_neg (by simp; omega), if_neg (by omega), hd]
    · have hq : u / 10 < 10 ^ f := by rw [Nat.pow_succ] at h1; omega
      rw [dec_l0 x0 hx f (u / 10) (by omega) hq (by omega) _ k (by omega) (by simp; omega)]
      have hd : decI u = decI (u / 10) ++ [48 + ((u % 10 : Nat) : Int)] := by
        unfold decI; rw [Lib.decDigits, dif_neg h10, List.map_append]; simp only [List.map_cons, List.map_nil]; rw [dig_byte (u % 10) (by omega)]
      rw [hd, List.append_assoc]
theorem strNums_dec (u : Nat) : strOfNums (decI u) = ⟨(Lib.decDigits u).toArray⟩ := by
  unfold strOfNums decI
  rw [List.map_map]
  have : ((fun n : Int => UInt8.ofNat n.toNat) ∘ fun b : UInt8 => (b.toNat : Int)) = id := by funext b; simp
  rw [this, List.map_id]
theorem Decimal_eq (n : Nat) (h : n < 9223372036854775808) : furlongref0_Decimal.f 40 (n : Int) = some (itoaB n) := by
  have hw : IntKind.u64.wrap (n : Int) = n := by rw [IntKind.wrap_u64]; omega
  have hi : itoaB (n : Int) = ⟨(Lib.decDigits n).toArray⟩ := by
    unfold itoaB Lib.itoa
    rw [if_neg (by omega), Int.toNat_natCast]
  rw [hi]
  unfold furlongref0_Decimal.f
  rw [if_neg (by omega), hw]
  simp only [furlongref0_Decimal.j0]
  by_cases h0 : n = 0
  · subst h0
    rw [← strNums_dec]
    have hd : decI 0 = [48] := by
      unfold decI; rw [Lib.decDigits, dif_pos (by omega)]; rfl
    rw [hd]
    rfl
  · rw [dec_l0 (n : Int) (by omega) 19 n (by omega) (by omega) (by omega) [] 39 (by omega) (by simp), List.append_nil, strNums_dec]

/-! Reading a number back. -/
end Go.Proofs.YtibakeahgcakmaaGreatDoor
