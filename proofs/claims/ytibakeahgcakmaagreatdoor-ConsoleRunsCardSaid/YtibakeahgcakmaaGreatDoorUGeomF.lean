/- The printed functions of points tell the plain geometry. -/
import Derived.Test.YtibakeahgcakmaaGreatDoorUCurveF
import Derived.Test.YtibakeahgcakmaaGreatDoorUPFx6
set_option linter.unusedVariables false
namespace Go.Proofs.YtibakeahgcakmaaGreatDoor
open Go.RowKit Go.Proofs.YtibakeahgcakmaaGreatDoorW.PrintWords Go.Proofs.YtibakeahgcakmaaGreatDoorW.PrintLast Go.Proofs.YtibakeahgcakmaaGreatDoorW.PrintMore PF

theorem u64w (n : Int) (h0 : 0 ≤ n) (h1 : n < 18446744073709551616) : IntKind.u64.wrap n = n := by
  have : IntKind.u64.wrap n = n % 18446744073709551616 := by simp [IntKind.wrap, IntKind.bits, IntKind.signed]
  rw [this]; omega
theorem bits_u64 (a b : Nat) (ha : a < 18446744073709551616) (hb : b < 18446744073709551616) :
    Go.bits .and .u64 a b = ((a &&& b : Nat) : Int) ∧ Go.bits .or .u64 a b = ((a ||| b : Nat) : Int) :=
  bits_nat .u64 64 (by decide) (fun n h0 h1 => u64w n h0 (by exact h1)) a b ha hb
theorem and_low (a : Nat) (ha : a < 18446744073709551616) : Go.bits .and .u64 (a : Int) 4294967295 = ((a % 4294967296 : Nat) : Int) := by
  have := (bits_u64 a 4294967295 ha (by omega)).1
  rw [show (4294967295 : Nat) = 2 ^ 32 - 1 from rfl, Nat.and_two_pow_sub_one_eq_mod] at this
  exact this
theorem or_parts (h l : Nat) (hh : h < 4294967296) (hl : l < 4294967296) : Go.bits .or .u64 ((h * 4294967296 : Nat) : Int) (l : Int) = ((h * 4294967296 + l : Nat) : Int) := by
  rw [(bits_u64 (h * 4294967296) l (by omega) (by omega)).2]
  have := Nat.two_pow_add_eq_or_of_lt (i := 32) (b := l) (by omega) h
  rw [show (2 : Nat) ^ 32 = 4294967296 from rfl, Nat.mul_comm] at this
  rw [this]
theorem Mul_eq (a b : Nat) (ha : a < 4294967296) (hb : b < 4294967296) : wide_Mul.f (a : Int) (b : Int) = some (0, ((a * b : Nat) : Int)) := by
  have hm : a * b ≤ 4294967295 * 4294967295 := Nat.mul_le_mul (by omega) (by omega)
  have ea : (a : Int) / 4294967296 = 0 := by omega
  have eb : (b : Int) / 4294967296 = 0 := by omega
  have la : Go.bits .and .u64 (a : Int) 4294967295 = (a : Int) := by rw [and_low a (by omega), Nat.mod_eq_of_lt ha]
  have lb : Go.bits .and .u64 (b : Int) 4294967295 = (b : Int) := by rw [and_low b (by omega), Nat.mod_eq_of_lt hb]
  unfold wide_Mul.f
  rw [ea, eb, la, lb, ← Int.natCast_mul]
  generalize hp : a * b = p at hm ⊢
  have z0 : IntKind.u64.wrap 0 = 0 := u64w 0 (by omega) (by omega)
  have wp : IntKind.u64.wrap (p : Int) = p := u64w (p : Int) (by omega) (by omega)
  have e1 : (p : Int) / 4294967296 = ((p / 4294967296 : Nat) : Int) := by omega
  have wq : IntKind.u64.wrap ((p / 4294967296 : Nat) : Int) = ((p / 4294967296 : Nat) : Int) := u64w _ (by omega) (by omega)
  have aq : Go.bits .and .u64 ((p / 4294967296 : Nat) : Int) 4294967295 = ((p / 4294967296 : Nat) : Int) := by rw [and_low _ (by omega), Nat.mod_eq_of_lt (show p / 4294967296 < 4294967296 by omega)]
  have dq : ((p / 4294967296 : Nat) : Int) / 4294967296 = 0 := by omega
  have mq : ((p / 4294967296 : Nat) : Int) * 4294967296 = ((p / 4294967296 * 4294967296 : Nat) : Int) := by omega
  have wm : IntKind.u64.wrap ((p / 4294967296 * 4294967296 : Nat) : Int) = ((p / 4294967296 * 4294967296 : Nat) : Int) := u64w _ (by omega) (by omega)
  have hor := or_parts (p / 4294967296) (p % 4294967296) (by omega) (by omega)
  simp only [Int.zero_mul, Int.mul_zero, Int.zero_add, Int.add_zero, z0, wp, e1, wq, aq, dq, mq, wm, and_low p (show p < 18446744073709551616 by omega), hor, Option.some.injEq, Prod.mk.injEq, true_and]
  omega

def sg (x : Int) : Int := if x < 0 then -1 else if x = 0 then 0 else 1
theorem Cmp_eq (k : Nat) (x y : Int) (hk : 4 ≤ k) : wide_Cmp.f k 0 x 0 y = some (sg (x - y)) := by
  obtain ⟨k, rfl⟩ : ∃ m, k = m + 4 := ⟨k - 4, by omega⟩
  have c : ∀ a b : Int, cmp_Compare_uint64.f a b = some (sg (a - b)) := by
    intro a b
    unfold cmp_Compare_uint64.f cmp_isNaN_uint64.f sg
    simp only [Option.bind_some, bne_self_eq_false, Bool.false_eq_true, if_false]
    by_cases h : a < b
    · simp [h]; omega
    · by_cases h2 : a > b
      · simp [h, h2]; omega
      · simp [h, h2]; omega
  unfold wide_Cmp.f
  rw [c, c]
  simp only [Option.bind_some]
  generalize sg (x - y) = s
  have z : sg (0 - 0) = 0 := by decide
  rw [z]
  unfold cmp_Or_int.f
  by_cases hs : s = 0
  · simp [cmp_Or_int.l0, rd, wrap64, hs]
  · simp [cmp_Or_int.l0, rd, wrap64, hs]

theorem mx_abs (a : Int) (h : -4294967295 ≤ a ∧ a ≤ 4294967295) : IntKind.u64.wrap (mx a (wrap64 (-a))) = (a.natAbs : Int) := by
  rw [w64 (-a) (by omega) (by omega)]
  unfold mx
  split <;> rw [u64w _ (by omega) (by omega)] <;> omega
theorem times_eq (a b : Int) (ha : -4294967295 ≤ a ∧ a ≤ 4294967295) (hb : -4294967295 ≤ b ∧ b ≤ 4294967295) :
    geom_times.f a b = some (decide ((a < 0) ≠ (b < 0) ∧ a ≠ 0 ∧ b ≠ 0), 0, ((a.natAbs * b.natAbs : Nat) : Int)) := by
  unfold geom_times.f
  rw [mx_abs a ha, mx_abs b hb, Mul_eq _ _ (by omega) (by omega)]
  simp only [Option.bind_some]
  by_cases h1 : a < 0 <;> by_cases h2 : b < 0 <;> by_cases h3 : a = 0 <;> by_cases h4 : b = 0 <;> simp [h1, h2, h3, h4] <;> omega
theorem compare_eq (k : Nat) (p q : Bool) (x y : Int) (hk : 6 ≤ k) :
    geom_product_compare.f k p 0 x q 0 y = some (if p = true ∧ q = true then sg (y - x) else if p = true then -1 else if q = true then 1 else sg (x - y)) := by
  obtain ⟨k, rfl⟩ : ∃ m, k = m + 1 := ⟨k - 1, by omega⟩
  unfold geom_product_compare.f
  cases p <;> cases q <;> simp [geom_product_compare.j0, Cmp_eq k _ _ (show 4 ≤ k by omega)]

theorem prod_sign (a b : Int) : a * b = if (a < 0) ≠ (b < 0) ∧ a ≠ 0 ∧ b ≠ 0 then -((a.natAbs * b.natAbs : Nat) : Int) else ((a.natAbs * b.natAbs : Nat) : Int) := by
  rw [← Int.natAbs_mul]
  by_cases h3 : a = 0
  · subst h3; simp
  by_cases h4 : b = 0
  · subst h4; simp
  by_cases h1 : a < 0 <;> by_cases h2 : b < 0
  · rw [if_neg (by simp [h1, h2])]
    have : 0 < a * b := Int.mul_pos_of_neg_of_neg h1 h2
    omega
  · rw [if_pos (by simp [h1, h2, h3, h4])]
    have : a * b < 0 := Int.mul_neg_of_neg_of_pos h1 (by omega)
    omega
  · rw [if_pos (by simp [h1, h2, h3, h4])]
    have : a * b < 0 := Int.mul_neg_of_pos_of_neg (by omega) h2
    omega
  · rw [if_neg (by simp [h1, h2])]
    have : 0 < a * b := Int.mul_pos (by omega) (by omega)
    omega
/-- May a place be? -/
def okP (x y : Int) : Prop := 0 ≤ x ∧ x ≤ 4294967295 ∧ 0 ≤ y ∧ y ≤ 4294967295
instance (x y : Int) : Decidable (okP x y) := by unfold okP; infer_instance
theorem PointMay_ok (x y : Int) : geom_PointMay.f x y = some (decide (okP x y)) := PointMay_eq x y
/-- The sign of a turn. -/
def turnZ (ax ay bx byy cx cy : Int) : Int := sg ((bx - ax) * (cy - ay) - (byy - ay) * (cx - ax))
theorem sg_cases (x : Int) : sg x = -1 ∨ sg x = 0 ∨ sg x = 1 := by unfold sg; split; · simp
                                                                   · split <;> simp
theorem cmp_sign (P Q : Int) (x y : Nat) (p q : Prop) [Decidable p] [Decidable q] (hP : P = if p then -(x : Int) else x) (hQ : Q = if q then -(y : Int) else y) (hp : p → 0 < x) (hq : q → 0 < y) :
    (if decide p = true ∧ decide q = true then sg ((y : Int) - x) else if decide p = true then -1 else if decide q = true then 1 else sg ((x : Int) - y)) = sg (P - Q) := by
  by_cases h1 : p <;> by_cases h2 : q
  · have := hp h1; have := hq h2
    simp only [h1, h2, if_true] at hP hQ
    simp [h1, h2, hP, hQ]; congr 1; omega
  · have := hp h1
    simp only [h1, h2, if_true, if_false] at hP hQ
    simp only [h1, h2, decide_true, decide_false, Bool.false_eq_true, and_false, if_false, if_true]
    unfold sg; rw [if_pos (by omega)]
  · have := hq h2
    simp only [h1, h2, if_true, if_false] at hP hQ
    simp only [h1, h2, decide_true, decide_false, Bool.false_eq_true, false_and, if_false, if_true]
    unfold sg; rw [if_neg (by omega), if_neg (by omega)]
  · simp only [h1, h2, if_false] at hP hQ
    simp [h1, h2, hP, hQ]
theorem turn_eq (k : Nat) (ax ay bx byy cx cy : Int) (hk : 8 ≤ k) (ha : okP ax ay) (hb : okP bx byy) (hc : okP cx cy) : geom_turn.f k ax ay bx byy cx cy = some (turnZ ax ay bx byy cx cy) := by
  unfold okP at ha hb hc
  unfold geom_turn.f turnZ
  rw [w64 (bx - ax) (by omega) (by omega), w64 (cy - ay) (by omega) (by omega), w64 (byy - ay) (by omega) (by omega), w64 (cx - ax) (by omega) (by omega),
    times_eq (bx - ax) (cy - ay) (by omega) (by omega), times_eq (byy - ay) (cx - ax) (by omega) (by omega)]
  simp only [Option.bind_some]
  rw [compare_eq k _ _ _ _ (by omega)]
  simp only [Option.bind_some, Option.some.injEq]
  refine cmp_sign _ _ _ _ _ _ (prod_sign _ _) (prod_sign _ _) ?_ ?_
  · rintro ⟨_, h1, h2⟩; exact Nat.mul_pos (by omega) (by omega)
  · rintro ⟨_, h1, h2⟩; exact Nat.mul_pos (by omega) (by omega)
theorem Turn_eq (k : Nat) (ax ay bx byy cx cy : Int) (hk : 8 ≤ k) : geom_Turn.f k ax ay bx byy cx cy = some (if okP ax ay ∧ okP bx byy ∧ okP cx cy then (turnZ ax ay bx byy cx cy, 0) else (0, 300)) := by
  unfold geom_Turn.f
  simp only [PointMay_ok, Option.bind_some, decide_eq_true_eq]
  by_cases ha : okP ax ay
  · rw [if_pos ha]
    by_cases hb : okP bx byy
    · rw [if_pos hb]
      by_cases hc : okP cx cy
      · rw [if_pos hc, turn_eq k _ _ _ _ _ _ hk ha hb hc, if_pos ⟨ha, hb, hc⟩]; rfl
      · rw [if_neg hc, if_neg (fun h => hc h.2.2)]
    · rw [if_neg hb, if_neg (fun h => hb h.2.1)]
  · rw [if_neg ha, if_neg (fun h => ha h.1)]
/-- Is a place on a stretch? -/
def onZ (px py ax ay bx byy : Int) : Prop := turnZ ax ay bx byy px py = 0 ∧ (mn ax bx ≤ px ∧ px ≤ mx ax bx ∧ mn ay byy ≤ py ∧ py ≤ mx ay byy)
instance (px py ax ay bx byy : Int) : Decidable (onZ px py ax ay bx byy) := by unfold onZ; infer_instance
theorem On_eq (k : Nat) (px py ax ay bx byy : Int) (hk : 8 ≤ k) (hp : okP px py) (ha : okP ax ay) (hb : okP bx byy) : geom_On.f k px py ax ay bx byy = some (decide (onZ px py ax ay bx byy)) := by
  unfold geom_On.f
  rw [turn_eq k _ _ _ _ _ _ hk ha hb hp]
  simp only [Option.bind_some]
  by_cases ht : turnZ ax ay bx byy px py = 0
  · rw [if_pos ht]
    have hmm : ∀ a b : Int, mn a b ≤ mx a b := fun a b => by unfold mn mx; split <;> split <;> omega
    have hin : ∀ a b : Int, 0 ≤ a → a ≤ 4294967295 → 0 ≤ b → b ≤ 4294967295 → 0 ≤ mn a b ∧ mn a b ≤ 4294967295 ∧ 0 ≤ mx a b ∧ mx a b ≤ 4294967295 := fun a b _ _ _ _ => by unfold mn mx; split <;> split <;> omega
    unfold okP at hp ha hb
    have b1 : geom_BoxMay.f (mn ax bx) (mn ay byy) (mx ax bx) (mx ay byy) = some true := by
      have i1 := hin ax bx ha.1 ha.2.1 hb.1 hb.2.1
      have i2 := hin ay byy ha.2.2.1 ha.2.2.2 hb.2.2.1 hb.2.2.2
      have j1 := hmm ax bx
      have j2 := hmm ay byy
      unfold geom_BoxMay.f geom_coord.f
      generalize mn ax bx = p at *; generalize mx ax bx = q at *; generalize mn ay byy = r at *; generalize mx ay byy = s at *
      simp only [show p ≥ 0 from i1.1, show q ≥ 0 from i1.2.2.1, show r ≥ 0 from i2.1, show s ≥ 0 from i2.2.2.1, if_true, i1.2.1, i1.2.2.2, i2.2.1, i2.2.2.2, decide_true, Option.bind_some, j1, j2]
    unfold geom_Between.f
    simp only [Option.bind_some]
    unfold geom_Within.f
    rw [PointMay_eq, b1]
    simp only [Option.bind_some, decide_eq_true_eq, if_true]
    rw [if_pos hp]
    by_cases c1 : px ≥ mn ax bx
    · rw [if_pos c1]
      by_cases c2 : px ≤ mx ax bx
      · rw [if_pos c2]
        by_cases c3 : py ≥ mn ay byy
        · rw [if_pos c3]
          by_cases c4 : py ≤ mx ay byy
          · rw [decide_eq_true c4]; exact congrArg some (decide_eq_true (show onZ px py ax ay bx byy from ⟨ht, c1, c2, c3, c4⟩)).symm
          · rw [decide_eq_false c4]; exact congrArg some (decide_eq_false (fun h : onZ px py ax ay bx byy => c4 h.2.2.2.2)).symm
        · rw [if_neg c3]; exact congrArg some (decide_eq_false (fun h : onZ px py ax ay bx byy => c3 h.2.2.2.1)).symm
      · rw [if_neg c2]; exact congrArg some (decide_eq_false (fun h : onZ px py ax ay bx byy => c2 h.2.2.1)).symm
    · rw [if_neg c1]; exact congrArg some (decide_eq_false (fun h : onZ px py ax ay bx byy => c1 h.2.1)).symm
  · rw [if_neg ht]; exact congrArg some (decide_eq_false (fun h : onZ px py ax ay bx byy => ht h.1)).symm
/-- Have two stretches a place in common? -/
def crossZ (ax ay bx byy cx cy dx dy : Int) : Prop :=
  (onZ cx cy ax ay bx byy ∨ onZ dx dy ax ay bx byy ∨ onZ ax ay cx cy dx dy ∨ onZ bx byy cx cy dx dy) ∨
  (turnZ ax ay bx byy cx cy * turnZ ax ay bx byy dx dy < 0 ∧ turnZ cx cy dx dy ax ay * turnZ cx cy dx dy bx byy < 0)
instance (ax ay bx byy cx cy dx dy : Int) : Decidable (crossZ ax ay bx byy cx cy dx dy) := by unfold crossZ; infer_instance
end Go.Proofs.YtibakeahgcakmaaGreatDoor
