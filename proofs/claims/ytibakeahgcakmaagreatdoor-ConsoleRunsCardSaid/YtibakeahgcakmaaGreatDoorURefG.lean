/- The reference's geometry: what turn, On, cross, Turn, Cross compute: the console's own. -/
import Derived.Test.YtibakeahgcakmaaGreatDoorUGeomF
import Derived.Test.YtibakeahgcakmaaGreatDoorUPFx9
import Derived.Test.YtibakeahgcakmaaGreatDoorUPHx2
import Derived.Test.YtibakeahgcakmaaGreatDoorURun
set_option linter.unusedVariables false
set_option linter.unusedSimpArgs false
namespace Go.Proofs.YtibakeahgcakmaaGreatDoor
open Go.Shelf Go.RowKit Go.Proofs.YtibakeahgcakmaaGreatDoorW.PrintWords Go.Proofs.YtibakeahgcakmaaGreatDoorW.PrintLast Go.Proofs.YtibakeahgcakmaaGreatDoorW.PrintMore PF Curve

theorem refMul_eq (a b : Nat) (ha : a < 4294967296) (hb : b < 4294967296) : PH.furlongref1_Mul.f (a : Int) (b : Int) = some (0, ((a * b : Nat) : Int)) := by
  have hm : a * b ≤ 4294967295 * 4294967295 := Nat.mul_le_mul (by omega) (by omega)
  have ea : (a : Int) / 4294967296 = 0 := by omega
  have eb : (b : Int) / 4294967296 = 0 := by omega
  have la : Go.bits .and .u64 (a : Int) 4294967295 = (a : Int) := by rw [and_low a (by omega), Nat.mod_eq_of_lt ha]
  have lb : Go.bits .and .u64 (b : Int) 4294967295 = (b : Int) := by rw [and_low b (by omega), Nat.mod_eq_of_lt hb]
  have l0 : Go.bits .and .u64 0 4294967295 = 0 := by decide
  unfold PH.furlongref1_Mul.f
  rw [ea, eb, la, lb, ← Int.natCast_mul]
  generalize hp : a * b = p at hm ⊢
  have z0 : IntKind.u64.wrap 0 = 0 := u64w 0 (by omega) (by omega)
  have wp : IntKind.u64.wrap (p : Int) = p := u64w (p : Int) (by omega) (by omega)
  have e1 : (p : Int) / 4294967296 = ((p / 4294967296 : Nat) : Int) := by omega
  have wq : IntKind.u64.wrap ((p / 4294967296 : Nat) : Int) = ((p / 4294967296 : Nat) : Int) := u64w _ (by omega) (by omega)
  have dq : ((p / 4294967296 : Nat) : Int) / 4294967296 = 0 := by omega
  have mq : ((p / 4294967296 : Nat) : Int) * 4294967296 = ((p / 4294967296 * 4294967296 : Nat) : Int) := by omega
  have wm : IntKind.u64.wrap ((p / 4294967296 * 4294967296 : Nat) : Int) = ((p / 4294967296 * 4294967296 : Nat) : Int) := u64w _ (by omega) (by omega)
  have hor := or_parts (p / 4294967296) (p % 4294967296) (by omega) (by omega)
  have z1 : (0 : Int) / 4294967296 = 0 := by omega
  simp only [Int.zero_mul, Int.mul_zero, Int.zero_add, Int.add_zero, z0, l0, z1, wp, e1, wq, dq, mq, wm, and_low p (show p < 18446744073709551616 by omega), hor, Option.some.injEq, Prod.mk.injEq, true_and]
  omega

theorem sg_mul' (a b : Int) (s t : Int) (x y : Nat) (hs : s = 1 ∨ s = -1) (ht : t = 1 ∨ t = -1) (ha : a = s * x) (hb : b = t * y) : sg (a * b) = if ((x * y : Nat) : Int) = 0 then 0 else s * t := by
  have e : a * b = s * t * ((x * y : Nat) : Int) := by rw [ha, hb, Int.natCast_mul]; simp only [Int.mul_assoc, Int.mul_left_comm, Int.mul_comm]
  rw [e]
  generalize x * y = P
  rcases hs with rfl | rfl <;> rcases ht with rfl | rfl <;> (unfold sg; split <;> (try split) <;> (try split) <;> omega)
/-- A number's sign (1 at nought) and size. -/
def sgn1 (a : Int) : Int := if a < 0 then -1 else 1
theorem sgn1_abs (a : Int) : a = sgn1 a * (a.natAbs : Int) := by unfold sgn1; split <;> omega
set_option maxHeartbeats 4000000 in
set_option maxRecDepth 100000 in
theorem signed_calls (a b : Int) (ha : -4294967295 ≤ a ∧ a ≤ 4294967295) (hb : -4294967295 ≤ b ∧ b ≤ 4294967295) (w : World) :
    Calls Tryz.prog 71 #[.int .i64 a, .int .i64 b] w fun e w' => e = .returned (.tuple #[.int .i64 (sg (a * b)), .agg #[.int .u64 0, .int .u64 ((a.natAbs * b.natAbs : Nat) : Int)]]) ∧ Below w.heap.size w w' := by
  have hM := Aside0.mk (refMul_eq a.natAbs b.natAbs (by omega) (by omega))
  rw [sg_mul' a b (sgn1 a) (sgn1 b) a.natAbs b.natAbs (by unfold sgn1; split <;> simp) (by unfold sgn1; split <;> simp) (sgn1_abs a) (sgn1_abs b)]
  generalize ((a.natAbs * b.natAbs : Nat) : Int) = q at *
  unfold sgn1
  have wa : (if a < 0 then wrap64 (-a) else a) = (a.natAbs : Int) := by
    split
    · rw [w64 _ (by omega) (by omega)]; omega
    · omega
  have wb : (if b < 0 then wrap64 (-b) else b) = (b.natAbs : Int) := by
    split
    · rw [w64 _ (by omega) (by omega)]; omega
    · omega
  have ua : IntKind.u64.wrap (a.natAbs : Int) = (a.natAbs : Int) := u64w _ (by omega) (by omega)
  have ub : IntKind.u64.wrap (b.natAbs : Int) = (b.natAbs : Int) := u64w _ (by omega) (by omega)
  clear ha hb
  generalize a.natAbs = x at *
  generalize b.natAbs = y at *
  by_cases c1 : a < 0 <;> by_cases c2 : b < 0 <;> by_cases c3 : q = 0
  all_goals
    simp only [c1, c2, if_true, if_false] at wa wb
    have c4 : (q == 0) = decide (q = 0) := by
      by_cases h : q = 0
      · subst h; rfl
      · rw [decide_eq_false h, beq_eq_false_iff_ne]; exact h
    rw [show decide (q = 0) = _ from by first | exact decide_eq_true c3 | exact decide_eq_false c3] at c4
    simp only [c1, c2, if_true, if_false]
    first | rw [if_pos c3] | rw [if_neg c3]
    clear c3
    go_enter Tryz.func71, Tryz.ntmps71
    go_wp2_with (go_at_call 90; (with_reducible refine (PH.furlongref1_Mul.calls _ _ 0 _ _ hM.out).mono ?_); rintro e w1 ⟨rfl, hb1⟩)
    have k0 : w1.heap[w.heap.size]? = some (.cells #[.int .u64 0, .int .u64 0] 122 (0, 0)) := heap_below (heap_alloc_new w _) hb1
    have hB := below_alloc (below_step (below_alloc (Below.refl _ w) _) hb1) (.cells #[.int .u64 0, .int .u64 q] 122)
    have j0 := heap_below k0 (below_alloc (Below.refl _ w1) (.cells #[.int .u64 0, .int .u64 q] 122))
    have j1 := heap_alloc_new w1 (.cells #[.int .u64 0, .int .u64 q] 122)
    clear hb1 k0
    generalize w1.alloc (.cells #[.int .u64 0, .int .u64 q] 122) = wB at *
    generalize w1.heap.size = g1 at *
    have e0 : wB.cell? ⟨w.heap.size, 0, none⟩ = some (.int .u64 0) := by rw [Lib.cell_of_heap j0]; rfl
    have e1 : wB.cell? ⟨w.heap.size, 1, none⟩ = some (.int .u64 0) := by rw [Lib.cell_of_heap j0]; rfl
    have f0 : wB.frozen? ⟨w.heap.size, 0, none⟩ = false := Lib.frozen_of_heap j0 0
    have f1 : wB.frozen? ⟨w.heap.size, 1, none⟩ = false := Lib.frozen_of_heap j0 1
    have d0 : wB.cell? ⟨g1, 0, none⟩ = some (.int .u64 0) := by rw [Lib.cell_of_heap j1]; rfl
    have d1 : wB.cell? ⟨g1, 1, none⟩ = some (.int .u64 q) := by rw [Lib.cell_of_heap j1]; rfl
    go_region
    go_wp2
    have hsz : w.heap.size < wB.heap.size := (Array.getElem?_eq_some_iff.1 j0).1
    refine bodyPost_ret ?_ rfl ⟨rfl, ?_⟩
    · simp [results, Tryz.results71, go_sem, e0, e1]
    · exact below_drew (((hB.setCell (p := ⟨w.heap.size, 0, none⟩) (Nat.le_refl _) _)).setCell (p := ⟨w.heap.size, 1, none⟩) (Nat.le_refl _) _)
set_option maxHeartbeats 4000000 in
set_option maxRecDepth 100000 in
theorem cmp_calls (x y : Int) (w : World) : Calls Tryz.prog 72 #[.agg #[.int .u64 0, .int .u64 x], .agg #[.int .u64 0, .int .u64 y]] w fun e w' => e = .returned (.int .i64 (sg (x - y))) ∧ Below w.heap.size w w' := by
  have hs : sg (x - y) = if x < y then -1 else if x = y then 0 else 1 := by unfold sg; split <;> (try split) <;> (try split) <;> (try split) <;> omega
  rw [hs]
  by_cases c1 : x = y
  · subst c1
    rw [if_neg (by omega), if_pos rfl]
    go_enter Tryz.func72, Tryz.ntmps72
    go_wp2
    go_ret
    exact ⟨rfl, below_alloc (below_alloc (Below.refl _ _) _) _⟩
  · have c3 : (x == y) = false := beq_eq_false_iff_ne.2 c1
    by_cases c2 : x < y
    · rw [if_pos c2]
      clear hs c1
      go_enter Tryz.func72, Tryz.ntmps72
      go_wp2
      go_ret
      exact ⟨rfl, below_alloc (below_alloc (Below.refl _ _) _) _⟩
    · rw [if_neg c2, if_neg c1]
      clear hs c1
      go_enter Tryz.func72, Tryz.ntmps72
      go_wp2
      go_ret
      exact ⟨rfl, below_alloc (below_alloc (Below.refl _ _) _) _⟩
/-- The sign of a difference, out of signs and sizes. -/
theorem turn_sign (P Q : Int) : (sg Q < sg P → sg (P - Q) = 1) ∧ (sg P < sg Q → sg (P - Q) = -1) ∧ (sg P = sg Q → sg (P - Q) = sg P * sg ((P.natAbs : Int) - Q.natAbs)) := by
  refine ⟨fun h => ?_, fun h => ?_, fun h => ?_⟩ <;> (unfold sg at h ⊢; (repeat' split at h) <;> (repeat' split) <;> omega)
set_option maxHeartbeats 4000000 in
set_option maxRecDepth 100000 in
theorem refturn_calls (ax ay bx byy cx cy : Int) (ha : okP ax ay) (hb : okP bx byy) (hc : okP cx cy) (w : World) :
    Calls Tryz.prog 53 #[.agg #[.int .i64 ax, .int .i64 ay], .agg #[.int .i64 bx, .int .i64 byy], .agg #[.int .i64 cx, .int .i64 cy]] w fun e w' => e = .returned (.int .i64 (turnZ ax ay bx byy cx cy)) ∧ Below w.heap.size w w' := by
  unfold okP at ha hb hc
  have w1 : wrap64 (bx - ax) = bx - ax := w64 _ (by omega) (by omega)
  have w2 : wrap64 (cy - ay) = cy - ay := w64 _ (by omega) (by omega)
  have w3 : wrap64 (byy - ay) = byy - ay := w64 _ (by omega) (by omega)
  have w4 : wrap64 (cx - ax) = cx - ax := w64 _ (by omega) (by omega)
  have S1 := Aside0.mk (signed_calls (bx - ax) (cy - ay) (by omega) (by omega))
  have S2 := Aside0.mk (signed_calls (byy - ay) (cx - ax) (by omega) (by omega))
  have hts := turn_sign ((bx - ax) * (cy - ay)) ((byy - ay) * (cx - ax))
  have e1 : (bx - ax).natAbs * (cy - ay).natAbs = ((bx - ax) * (cy - ay)).natAbs := (Int.natAbs_mul _ _).symm
  have e2 : (byy - ay).natAbs * (cx - ax).natAbs = ((byy - ay) * (cx - ax)).natAbs := (Int.natAbs_mul _ _).symm
  rw [e1] at S1
  rw [e2] at S2
  have r1 := sg_cases ((bx - ax) * (cy - ay))
  have r3 := sg_cases ((((bx - ax) * (cy - ay)).natAbs : Int) - ((byy - ay) * (cx - ax)).natAbs)
  have C1 := Aside0.mk (cmp_calls (((bx - ax) * (cy - ay)).natAbs : Int) (((byy - ay) * (cx - ax)).natAbs : Int))
  unfold turnZ
  clear ha hb hc e1 e2
  generalize (bx - ax) * (cy - ay) = P at *
  generalize (byy - ay) * (cx - ax) = Q at *
  generalize sg (P - Q) = T at *
  generalize (P.natAbs : Int) = p at *
  generalize (Q.natAbs : Int) = q at *
  generalize sg P = s at *
  generalize sg Q = t at *
  generalize sg (p - q) = cc at *
  have hne : s = t ∨ t < s ∨ s < t := by omega
  rcases hne with h | h | h
  · have hT := hts.2.2 h
    have b1 : (s != t) = false := by rw [h]; simp
    have b2 : wrap64 (s * cc) = s * cc := by rcases r1 with r1 | r1 | r1 <;> rcases r3 with r3 | r3 | r3 <;> rw [r1, r3] <;> exact w64 _ (by decide) (by decide)
    rw [hT]
    clear hts hT r1 r3 h
    go_enter Tryz.func53, Tryz.ntmps53
    go_wp2_with (first
      | (go_at_call 71; first
          | ((with_reducible refine (S1.out _).mono ?_); rintro e w1 ⟨rfl, hb1⟩; obtain ⟨q0, q1, q2, q3, q4, q5, HB1⟩ := boxes3 hb1; have hA := below_alloc (Below.refl w1.heap.size w1) (.cells #[.int .u64 0, .int .u64 p] 122); replace q0 := pw_cell_below hA q0; replace q1 := pw_cell_below hA q1; replace q2 := pw_cell_below hA q2; replace q3 := pw_cell_below hA q3; replace q4 := pw_cell_below hA q4; replace q5 := pw_cell_below hA q5; have HB2 := below_alloc HB1 (.cells #[.int .u64 0, .int .u64 p] 122); clear hb1 hA HB1)
          | ((with_reducible refine (S2.out _).mono ?_); rintro e w2 ⟨rfl, hb2⟩; have x0 := heap_below (heap_below (heap_alloc_new w1 (.cells #[.int .u64 0, .int .u64 p] 122)) hb2) (below_alloc (Below.refl _ w2) (.cells #[.int .u64 0, .int .u64 q] 122)); have y0 := heap_alloc_new w2 (.cells #[.int .u64 0, .int .u64 q] 122); have x1 := Lib.cell_of_heap x0 0; have x2 := Lib.cell_of_heap x0 1; have y1 := Lib.cell_of_heap y0 0; have y2 := Lib.cell_of_heap y0 1; have HB3 := below_alloc (below_step HB2 hb2) (.cells #[.int .u64 0, .int .u64 q] 122); clear x0 y0 hb2))
      | (go_at_call 72; (with_reducible refine (C1.out _).mono ?_); rintro e w3 ⟨rfl, hb3⟩))
    go_ret
    exact ⟨by simp [b2], below_step HB3 hb3⟩
  · have hT := hts.1 h
    have b1 : (s != t) = true := by rw [bne_iff_ne]; omega
    rw [hT]
    clear hts hT r1 r3
    go_enter Tryz.func53, Tryz.ntmps53
    go_wp2_with (first
      | (go_at_call 71; first
          | ((with_reducible refine (S1.out _).mono ?_); rintro e w1 ⟨rfl, hb1⟩; obtain ⟨q0, q1, q2, q3, q4, q5, HB1⟩ := boxes3 hb1; have hA := below_alloc (Below.refl w1.heap.size w1) (.cells #[.int .u64 0, .int .u64 p] 122); replace q0 := pw_cell_below hA q0; replace q1 := pw_cell_below hA q1; replace q2 := pw_cell_below hA q2; replace q3 := pw_cell_below hA q3; replace q4 := pw_cell_below hA q4; replace q5 := pw_cell_below hA q5; have HB2 := below_alloc HB1 (.cells #[.int .u64 0, .int .u64 p] 122); clear hb1 hA HB1)
          | ((with_reducible refine (S2.out _).mono ?_); rintro e w2 ⟨rfl, hb2⟩; have x0 := heap_below (heap_below (heap_alloc_new w1 (.cells #[.int .u64 0, .int .u64 p] 122)) hb2) (below_alloc (Below.refl _ w2) (.cells #[.int .u64 0, .int .u64 q] 122)); have y0 := heap_alloc_new w2 (.cells #[.int .u64 0, .int .u64 q] 122); have x1 := Lib.cell_of_heap x0 0; have x2 := Lib.cell_of_heap x0 1; have y1 := Lib.cell_of_heap y0 0; have y2 := Lib.cell_of_heap y0 1; have HB3 := below_alloc (below_step HB2 hb2) (.cells #[.int .u64 0, .int .u64 q] 122); clear x0 y0 hb2))
      | (go_at_call 72; (with_reducible refine (C1.out _).mono ?_); rintro e w3 ⟨rfl, hb3⟩))
    go_ret
    exact ⟨by simp, HB3⟩
  · have hT := hts.2.1 h
    have b1 : (s != t) = true := by rw [bne_iff_ne]; omega
    have b3 : ¬ (t < s) := by omega
    rw [hT]
    clear hts hT r1 r3 h
    go_enter Tryz.func53, Tryz.ntmps53
    go_wp2_with (first
      | (go_at_call 71; first
          | ((with_reducible refine (S1.out _).mono ?_); rintro e w1 ⟨rfl, hb1⟩; obtain ⟨q0, q1, q2, q3, q4, q5, HB1⟩ := boxes3 hb1; have hA := below_alloc (Below.refl w1.heap.size w1) (.cells #[.int .u64 0, .int .u64 p] 122); replace q0 := pw_cell_below hA q0; replace q1 := pw_cell_below hA q1; replace q2 := pw_cell_below hA q2; replace q3 := pw_cell_below hA q3; replace q4 := pw_cell_below hA q4; replace q5 := pw_cell_below hA q5; have HB2 := below_alloc HB1 (.cells #[.int .u64 0, .int .u64 p] 122); clear hb1 hA HB1)
          | ((with_reducible refine (S2.out _).mono ?_); rintro e w2 ⟨rfl, hb2⟩; have x0 := heap_below (heap_below (heap_alloc_new w1 (.cells #[.int .u64 0, .int .u64 p] 122)) hb2) (below_alloc (Below.refl _ w2) (.cells #[.int .u64 0, .int .u64 q] 122)); have y0 := heap_alloc_new w2 (.cells #[.int .u64 0, .int .u64 q] 122); have x1 := Lib.cell_of_heap x0 0; have x2 := Lib.cell_of_heap x0 1; have y1 := Lib.cell_of_heap y0 0; have y2 := Lib.cell_of_heap y0 1; have HB3 := below_alloc (below_step HB2 hb2) (.cells #[.int .u64 0, .int .u64 q] 122); clear x0 y0 hb2))
      | (go_at_call 72; (with_reducible refine (C1.out _).mono ?_); rintro e w3 ⟨rfl, hb3⟩))
    go_ret
    exact ⟨by simp, HB3⟩
end Go.Proofs.YtibakeahgcakmaaGreatDoor
