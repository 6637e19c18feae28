/- The reference's geometry, on: around, BoxMay, Within, On, cross, Cross, Turn. -/
import Derived.Test.YtibakeahgcakmaaGreatDoorURefG
set_option linter.unusedVariables false
set_option linter.unusedSimpArgs false
namespace Go.Proofs.YtibakeahgcakmaaGreatDoor
open Go.Shelf Go.RowKit Go.Proofs.YtibakeahgcakmaaGreatDoorW.PrintWords Go.Proofs.YtibakeahgcakmaaGreatDoorW.PrintLast Go.Proofs.YtibakeahgcakmaaGreatDoorW.PrintMore PF Curve
attribute [local go_sem] max2_int min2_int

theorem refpt_calls (x y : Int) (b : Bool) (hb : decide (okP x y) = b) (w : World) : Calls Tryz.prog 25 #[.agg #[.int .i64 x, .int .i64 y]] w fun e w' => e = .returned (.bool b) ∧ Below w.heap.size w w' := by
  have h := refPointMay_eq x y
  refine (PF.furlongref1_PointMay.calls x y b w ?_).mono ?_
  · rw [h, ← hb]; rfl
  · rintro e w' ⟨rfl, hd⟩
    exact ⟨rfl, hd⟩
set_option maxHeartbeats 4000000 in
set_option maxRecDepth 100000 in
theorem around_calls (ax ay bx byy : Int) (w : World) : Calls Tryz.prog 92 #[.agg #[.int .i64 ax, .int .i64 ay], .agg #[.int .i64 bx, .int .i64 byy]] w fun e w' =>
    e = .returned (.agg #[.int .i64 (mn ax bx), .int .i64 (mn ay byy), .int .i64 (mx ax bx), .int .i64 (mx ay byy)]) ∧ Below w.heap.size w w' := by
  have m1 : ∀ x y : Int, mn x y = min x y := fun x y => by unfold mn; split <;> omega
  have m2 : ∀ x y : Int, mx x y = max x y := fun x y => by unfold mx; split <;> omega
  rw [m1, m1, m2, m2]
  clear m1 m2
  go_enter Tryz.func92, Tryz.ntmps92
  go_wp2
  refine bodyPost_ret ?_ rfl ⟨rfl, below_alloc (below_alloc (below_alloc (Below.refl _ _) _) _) _⟩
  simp [results, Tryz.results92, go_sem]
set_option maxHeartbeats 4000000 in
set_option maxRecDepth 100000 in
theorem refbox_calls (a b c d : Int) (w : World) : Calls Tryz.prog 55 #[.agg #[.int .i64 a, .int .i64 b, .int .i64 c, .int .i64 d]] w fun e w' =>
    e = .returned (.bool (decide (okP a b ∧ okP c d ∧ a ≤ c ∧ b ≤ d))) ∧ Below w.heap.size w w' := by
  have h1 := Aside0.mk (refpt_calls a b _ rfl)
  have h2 := Aside0.mk (refpt_calls c d _ rfl)
  have hd : decide (okP a b ∧ okP c d ∧ a ≤ c ∧ b ≤ d) = (decide (okP a b) && (decide (okP c d) && (decide (a ≤ c) && decide (b ≤ d)))) := by simp only [Bool.decide_and]
  rw [hd]
  clear hd
  generalize decide (okP a b) = p1 at *
  generalize decide (okP c d) = p2 at *
  by_cases c1 : a ≤ c <;> by_cases c2 : b ≤ d <;> cases p1 <;> cases p2
  all_goals
    go_enter Tryz.func55, Tryz.ntmps55
    go_wp2_with (first
      | (go_at_call 25; first
          | ((with_reducible refine (h1.out _).mono ?_); rintro e w1 ⟨rfl, hb1⟩; have k0 := heap_below (heap_alloc_new w _) hb1; have q0 := Lib.cell_of_heap k0 0; have q1 := Lib.cell_of_heap k0 1; have q2 := Lib.cell_of_heap k0 2; have q3 := Lib.cell_of_heap k0 3; have HB1 := below_step (below_alloc (Below.refl _ w) _) hb1; clear hb1)
          | ((with_reducible refine (h2.out _).mono ?_); rintro e w2 ⟨rfl, hb2⟩; have HB2 := below_step HB1 hb2; replace k0 := heap_below k0 hb2; have q0 := Lib.cell_of_heap k0 0; have q1 := Lib.cell_of_heap k0 1; have q2 := Lib.cell_of_heap k0 2; have q3 := Lib.cell_of_heap k0 3; clear hb2)))
    go_ret
    exact ⟨by simp [c1, c2], by assumption⟩
set_option maxHeartbeats 4000000 in
set_option maxRecDepth 100000 in
theorem within_calls (px py a b c d : Int) (hp : okP px py) (hx : okP a b ∧ okP c d ∧ a ≤ c ∧ b ≤ d) (w : World) : Calls Tryz.prog 91 #[.agg #[.int .i64 px, .int .i64 py], .agg #[.int .i64 a, .int .i64 b, .int .i64 c, .int .i64 d]] w fun e w' =>
    e = .returned (.bool (decide (a ≤ px ∧ px ≤ c ∧ b ≤ py ∧ py ≤ d))) ∧ Below w.heap.size w w' := by
  have h1 := Aside0.mk (refpt_calls px py true (decide_eq_true hp))
  have h2 := Aside0.mk (refbox_calls a b c d)
  rw [decide_eq_true hx] at h2
  clear hp hx
  by_cases c1 : a ≤ px <;> by_cases c2 : px ≤ c <;> by_cases c3 : b ≤ py <;> by_cases c4 : py ≤ d
  all_goals
    go_enter Tryz.func91, Tryz.ntmps91
    go_wp2_with (first
      | (go_at_call 25; ((with_reducible refine (h1.out _).mono ?_); rintro e w1 ⟨rfl, hb1⟩; have k0 := heap_below (heap_below (heap_alloc_new w (.cells #[.int .i64 px, .int .i64 py] 38)) (below_alloc (Below.refl _ _) (.cells #[.int .i64 a, .int .i64 b, .int .i64 c, .int .i64 d] 84))) hb1; have k1 := heap_below (heap_alloc_new (w.alloc (.cells #[.int .i64 px, .int .i64 py] 38)) (.cells #[.int .i64 a, .int .i64 b, .int .i64 c, .int .i64 d] 84)) hb1; rw [show (w.alloc (.cells #[.int .i64 px, .int .i64 py] 38)).heap.size = w.heap.size + 1 from Array.size_push ..] at k1; have q0 := Lib.cell_of_heap k1 0; have q1 := Lib.cell_of_heap k1 1; have q2 := Lib.cell_of_heap k1 2; have q3 := Lib.cell_of_heap k1 3; have HB1 := below_step (below_alloc (below_alloc (Below.refl _ w) _) _) hb1; clear hb1))
      | (go_at_call 55; ((with_reducible refine (h2.out _).mono ?_); rintro e w2 ⟨rfl, hb2⟩; have HB2 := below_step HB1 hb2; replace k0 := heap_below k0 hb2; replace k1 := heap_below k1 hb2; have r0 := Lib.cell_of_heap k0 0; have r1 := Lib.cell_of_heap k0 1; have q0 := Lib.cell_of_heap k1 0; have q1 := Lib.cell_of_heap k1 1; have q2 := Lib.cell_of_heap k1 2; have q3 := Lib.cell_of_heap k1 3; clear hb2 HB1)))
    go_ret
    exact ⟨by simp [c1, c2, c3, c4], by assumption⟩
set_option maxHeartbeats 4000000 in
set_option maxRecDepth 100000 in
theorem on_calls (px py ax ay bx byy : Int) (hp : okP px py) (ha : okP ax ay) (hb : okP bx byy) (r : Bool) (hr : decide (onZ px py ax ay bx byy) = r) (w : World) :
    Calls Tryz.prog 73 #[.agg #[.int .i64 px, .int .i64 py], .agg #[.int .i64 ax, .int .i64 ay], .agg #[.int .i64 bx, .int .i64 byy]] w fun e w' => e = .returned (.bool r) ∧ Below w.heap.size w w' := by
  have T := Aside0.mk (refturn_calls ax ay bx byy px py ha hb hp)
  have A := Aside0.mk (around_calls ax ay bx byy)
  have W := Aside0.mk (within_calls px py (mn ax bx) (mn ay byy) (mx ax bx) (mx ay byy) hp (by unfold okP mn mx at *; refine ⟨?_, ?_, ?_, ?_⟩ <;> (repeat' split) <;> omega))
  have hq : decide (onZ px py ax ay bx byy) = (decide (turnZ ax ay bx byy px py = 0) && decide (mn ax bx ≤ px ∧ px ≤ mx ax bx ∧ mn ay byy ≤ py ∧ py ≤ mx ay byy)) := by
    rw [Bool.eq_iff_iff, Bool.and_eq_true, decide_eq_true_iff, decide_eq_true_iff, decide_eq_true_iff]; exact Iff.rfl
  rw [← hr, hq]
  clear hr hq
  clear hp ha hb
  generalize decide (mn ax bx ≤ px ∧ px ≤ mx ax bx ∧ mn ay byy ≤ py ∧ py ≤ mx ay byy) = q at *
  generalize turnZ ax ay bx byy px py = z at *
  generalize mn ax bx = m1 at *
  generalize mn ay byy = m2 at *
  generalize mx ax bx = m3 at *
  generalize mx ay byy = m4 at *
  by_cases hz : z = 0
  · have hz' : (z == 0) = true := beq_iff_eq.2 hz
    rw [decide_eq_true hz]
    go_enter Tryz.func73, Tryz.ntmps73
    go_wp2
    obtain ⟨hP, HB⟩ := P3.mk w px py ax ay bx byy
    unfold pt at hP HB
    refine wp_region_held_drew (S := P3 w.heap.size px py ax ay bx byy) (by kernel_rfl) (hP.below (below_drew (Below.refl _ _))) (fun hH => ?_)
    replace HB := below_step HB (below_drew (Below.refl _ _))
    clear hP
    generalize World.drew _ = wA at *
    refine tk 0 7 (v := ?_) hH (by kernel_rfl) rfl rfl (fun _ _ _ h => h) (.inl ⟨by rfl, ?_⟩) ?_; rotate_left; (intro w' hw; obtain ⟨_, _, _, _, _, _⟩ := hw); (go_simp; try with_reducible rfl); simp only [Act.put, List.setIfInBounds_toArray, List.set_cons_zero, List.set_cons_succ]
    refine tk 1 8 (v := ?_) hH (by kernel_rfl) rfl rfl (fun _ _ _ h => h) (.inl ⟨by rfl, ?_⟩) ?_; rotate_left; (intro w' hw; obtain ⟨_, _, _, _, _, _⟩ := hw); (go_simp; try with_reducible rfl); simp only [Act.put, List.setIfInBounds_toArray, List.set_cons_zero, List.set_cons_succ]
    refine tk 2 9 (v := ?_) hH (by kernel_rfl) rfl rfl (fun _ _ _ h => h) (.inl ⟨by rfl, ?_⟩) ?_; rotate_left; (intro w' hw; obtain ⟨_, _, _, _, _, _⟩ := hw); (go_simp; try with_reducible rfl); simp only [Act.put, List.setIfInBounds_toArray, List.set_cons_zero, List.set_cons_succ]
    refine tc 3 10 (by kernel_rfl) rfl rfl (by rfl) Tryz.func53 (by kernel_rfl) rfl ((T.out _).mono ?_) (by simp only [List.map_toArray, List.map_cons, List.map_nil]; rfl)
    rintro e w1 ⟨rfl, hb1⟩
    refine ⟨_, rfl, P3.below hH hb1, fun hH => ?_⟩
    simp only [Act.put, List.setIfInBounds_toArray, List.set_cons_zero, List.set_cons_succ]
    refine tk 4 11 (v := ?_) hH (by kernel_rfl) rfl rfl (fun _ _ _ h => h) (.inl ⟨by rfl, ?_⟩) ?_; rotate_left; (intro w' hw; obtain ⟨_, _, _, _, _, _⟩ := hw); (go_simp; try with_reducible rfl); simp only [Act.put, List.setIfInBounds_toArray, List.set_cons_zero, List.set_cons_succ]
    refine tk 5 12 (v := ?_) hH (by kernel_rfl) rfl rfl (fun _ _ _ h => h) (.inl ⟨by rfl, ?_⟩) ?_; rotate_left; (intro w' hw; obtain ⟨_, _, _, _, _, _⟩ := hw); (go_simp; try with_reducible rfl); simp only [Act.put, List.setIfInBounds_toArray, List.set_cons_zero, List.set_cons_succ]
    refine tk 6 13 (v := ?_) hH (by kernel_rfl) rfl rfl (fun _ _ _ h => h) (.inl ⟨by rfl, ?_⟩) ?_; rotate_left; (intro w' hw; obtain ⟨_, _, _, _, _, _⟩ := hw); (go_simp; try with_reducible rfl); simp only [Act.put, List.setIfInBounds_toArray, List.set_cons_zero, List.set_cons_succ]
    refine tk 7 14 (v := ?_) hH (by kernel_rfl) rfl rfl (fun _ _ _ h => h) (.inl ⟨by rfl, ?_⟩) ?_; rotate_left; (intro w' hw; obtain ⟨_, _, _, _, _, _⟩ := hw); (go_simp; try with_reducible rfl); simp only [Act.put, List.setIfInBounds_toArray, List.set_cons_zero, List.set_cons_succ]
    refine tk 8 15 (v := ?_) hH (by kernel_rfl) rfl rfl (fun _ _ _ h => h) (.inl ⟨by rfl, ?_⟩) ?_; rotate_left; (intro w' hw; obtain ⟨_, _, _, _, _, _⟩ := hw); (go_simp; try with_reducible rfl); simp only [Act.put, List.setIfInBounds_toArray, List.set_cons_zero, List.set_cons_succ]
    refine tc 9 16 (by kernel_rfl) rfl rfl (by rfl) Tryz.func92 (by kernel_rfl) rfl ((A.out _).mono ?_) (by simp only [List.map_toArray, List.map_cons, List.map_nil]; rfl)
    rintro e w2 ⟨rfl, hb2⟩
    refine ⟨_, rfl, P3.below hH hb2, fun hH => ?_⟩
    simp only [Act.put, List.setIfInBounds_toArray, List.set_cons_zero, List.set_cons_succ]
    refine tc 10 17 (by kernel_rfl) rfl rfl (by rfl) Tryz.func91 (by kernel_rfl) rfl ((W.out _).mono ?_) (by simp only [List.map_toArray, List.map_cons, List.map_nil]; rfl)
    rintro e w3 ⟨rfl, hb3⟩
    refine ⟨_, rfl, P3.below hH hb3, fun hH => ?_⟩
    simp only [Act.put, List.setIfInBounds_toArray, List.set_cons_zero, List.set_cons_succ]
    refine tk 11 18 (v := ?_) hH (by kernel_rfl) rfl rfl (fun _ _ _ h => h) (.inl ⟨by rfl, ?_⟩) ?_; rotate_left; (intro w' hw; obtain ⟨_, _, _, _, _, _⟩ := hw); (go_simp; try with_reducible rfl); simp only [Act.put, List.setIfInBounds_toArray, List.set_cons_zero, List.set_cons_succ]
    refine tk 12 6 (v := ?_) hH (by kernel_rfl) rfl rfl (fun _ _ _ h => h) (.inl ⟨by rfl, ?_⟩) ?_; rotate_left; (intro w' hw; obtain ⟨_, _, _, _, _, _⟩ := hw); (go_simp; try with_reducible rfl); simp only [Act.put, List.setIfInBounds_toArray, List.set_cons_zero, List.set_cons_succ]
    refine wpAnyH_done (by kernel_rfl) ?_ _
    go_wp2
    go_ret
    exact ⟨by simp, below_step (below_step (below_step HB hb1) hb2) hb3⟩
  · have hz' : (z == 0) = false := beq_eq_false_iff_ne.2 hz
    rw [decide_eq_false hz]
    go_enter Tryz.func73, Tryz.ntmps73
    go_wp2
    obtain ⟨hP, HB⟩ := P3.mk w px py ax ay bx byy
    unfold pt at hP HB
    refine wp_region_held_drew (S := P3 w.heap.size px py ax ay bx byy) (by kernel_rfl) (hP.below (below_drew (Below.refl _ _))) (fun hH => ?_)
    replace HB := below_step HB (below_drew (Below.refl _ _))
    clear hP
    generalize World.drew _ = wA at *
    refine tk 0 7 (v := ?_) hH (by kernel_rfl) rfl rfl (fun _ _ _ h => h) (.inl ⟨by rfl, ?_⟩) ?_; rotate_left; (intro w' hw; obtain ⟨_, _, _, _, _, _⟩ := hw); (go_simp; try with_reducible rfl); simp only [Act.put, List.setIfInBounds_toArray, List.set_cons_zero, List.set_cons_succ]
    refine tk 1 8 (v := ?_) hH (by kernel_rfl) rfl rfl (fun _ _ _ h => h) (.inl ⟨by rfl, ?_⟩) ?_; rotate_left; (intro w' hw; obtain ⟨_, _, _, _, _, _⟩ := hw); (go_simp; try with_reducible rfl); simp only [Act.put, List.setIfInBounds_toArray, List.set_cons_zero, List.set_cons_succ]
    refine tk 2 9 (v := ?_) hH (by kernel_rfl) rfl rfl (fun _ _ _ h => h) (.inl ⟨by rfl, ?_⟩) ?_; rotate_left; (intro w' hw; obtain ⟨_, _, _, _, _, _⟩ := hw); (go_simp; try with_reducible rfl); simp only [Act.put, List.setIfInBounds_toArray, List.set_cons_zero, List.set_cons_succ]
    refine tc 3 10 (by kernel_rfl) rfl rfl (by rfl) Tryz.func53 (by kernel_rfl) rfl ((T.out _).mono ?_) (by simp only [List.map_toArray, List.map_cons, List.map_nil]; rfl)
    rintro e w1 ⟨rfl, hb1⟩
    refine ⟨_, rfl, P3.below hH hb1, fun hH => ?_⟩
    simp only [Act.put, List.setIfInBounds_toArray, List.set_cons_zero, List.set_cons_succ]
    refine tk 4 11 (v := ?_) hH (by kernel_rfl) rfl rfl (fun _ _ _ h => h) (.inl ⟨by rfl, ?_⟩) ?_; rotate_left; (intro w' hw; obtain ⟨_, _, _, _, _, _⟩ := hw); (go_simp; try with_reducible rfl); simp only [Act.put, List.setIfInBounds_toArray, List.set_cons_zero, List.set_cons_succ]
    refine tk 5 12 (v := ?_) hH (by kernel_rfl) rfl rfl (fun _ _ _ h => h) (.inl ⟨by rfl, ?_⟩) ?_; rotate_left; (intro w' hw; obtain ⟨_, _, _, _, _, _⟩ := hw); (go_simp; try with_reducible rfl); simp only [Act.put, List.setIfInBounds_toArray, List.set_cons_zero, List.set_cons_succ]
    refine tk 6 13 hH (by kernel_rfl) rfl rfl (fun _ _ _ h => h) (.inr ⟨by rfl, rfl⟩) ?_; simp only [Act.put, List.setIfInBounds_toArray, List.set_cons_zero, List.set_cons_succ]
    refine tk 7 14 hH (by kernel_rfl) rfl rfl (fun _ _ _ h => h) (.inr ⟨by rfl, rfl⟩) ?_; simp only [Act.put, List.setIfInBounds_toArray, List.set_cons_zero, List.set_cons_succ]
    refine tk 8 15 hH (by kernel_rfl) rfl rfl (fun _ _ _ h => h) (.inr ⟨by rfl, rfl⟩) ?_; simp only [Act.put, List.setIfInBounds_toArray, List.set_cons_zero, List.set_cons_succ]
    refine tk 9 16 hH (by kernel_rfl) rfl rfl (fun _ _ _ h => h) (.inr ⟨by rfl, rfl⟩) ?_; simp only [Act.put, List.setIfInBounds_toArray, List.set_cons_zero, List.set_cons_succ]
    refine tk 10 17 hH (by kernel_rfl) rfl rfl (fun _ _ _ h => h) (.inr ⟨by rfl, rfl⟩) ?_; simp only [Act.put, List.setIfInBounds_toArray, List.set_cons_zero, List.set_cons_succ]
    refine tk 11 18 (v := ?_) hH (by kernel_rfl) rfl rfl (fun _ _ _ h => h) (.inl ⟨by rfl, ?_⟩) ?_; rotate_left; (intro w' hw; obtain ⟨_, _, _, _, _, _⟩ := hw); (go_simp; try with_reducible rfl); simp only [Act.put, List.setIfInBounds_toArray, List.set_cons_zero, List.set_cons_succ]
    refine tk 12 6 (v := ?_) hH (by kernel_rfl) rfl rfl (fun _ _ _ h => h) (.inl ⟨by rfl, ?_⟩) ?_; rotate_left; (intro w' hw; obtain ⟨_, _, _, _, _, _⟩ := hw); (go_simp; try with_reducible rfl); simp only [Act.put, List.setIfInBounds_toArray, List.set_cons_zero, List.set_cons_succ]
    refine wpAnyH_done (by kernel_rfl) ?_ _
    go_wp2
    go_ret
    exact ⟨by simp, below_step HB hb1⟩
set_option maxHeartbeats 4000000 in
set_option maxRecDepth 100000 in
theorem cross_calls (ax ay bx byy cx cy dx dy : Int) (ha : okP ax ay) (hb : okP bx byy) (hc : okP cx cy) (hd : okP dx dy) (r : Bool) (hr : decide (crossZ ax ay bx byy cx cy dx dy) = r) (w : World) :
    Calls Tryz.prog 54 #[.agg #[.int .i64 ax, .int .i64 ay], .agg #[.int .i64 bx, .int .i64 byy], .agg #[.int .i64 cx, .int .i64 cy], .agg #[.int .i64 dx, .int .i64 dy]] w fun e w' => e = .returned (.bool r) ∧ Below w.heap.size w w' := by
  have C1 := Aside0.mk (on_calls ax ay cx cy dx dy ha hc hd _ rfl)
  have C2 := Aside0.mk (on_calls bx byy cx cy dx dy hb hc hd _ rfl)
  have C3 := Aside0.mk (on_calls cx cy ax ay bx byy hc ha hb _ rfl)
  have C4 := Aside0.mk (on_calls dx dy ax ay bx byy hd ha hb _ rfl)
  have T1 := Aside0.mk (refturn_calls ax ay bx byy cx cy ha hb hc)
  have T2 := Aside0.mk (refturn_calls ax ay bx byy dx dy ha hb hd)
  have T3 := Aside0.mk (refturn_calls cx cy dx dy ax ay hc hd ha)
  have T4 := Aside0.mk (refturn_calls cx cy dx dy bx byy hc hd hb)
  have s1 := sg_cases ((bx - ax) * (cy - ay) - (byy - ay) * (cx - ax))
  have s2 := sg_cases ((bx - ax) * (dy - ay) - (byy - ay) * (dx - ax))
  have s3 := sg_cases ((dx - cx) * (ay - cy) - (dy - cy) * (ax - cx))
  have s4 := sg_cases ((dx - cx) * (byy - cy) - (dy - cy) * (bx - cx))
  change turnZ ax ay bx byy cx cy = -1 ∨ turnZ ax ay bx byy cx cy = 0 ∨ turnZ ax ay bx byy cx cy = 1 at s1
  change turnZ ax ay bx byy dx dy = -1 ∨ turnZ ax ay bx byy dx dy = 0 ∨ turnZ ax ay bx byy dx dy = 1 at s2
  change turnZ cx cy dx dy ax ay = -1 ∨ turnZ cx cy dx dy ax ay = 0 ∨ turnZ cx cy dx dy ax ay = 1 at s3
  change turnZ cx cy dx dy bx byy = -1 ∨ turnZ cx cy dx dy bx byy = 0 ∨ turnZ cx cy dx dy bx byy = 1 at s4
  have hq : decide (crossZ ax ay bx byy cx cy dx dy) = ((decide (onZ cx cy ax ay bx byy) || (decide (onZ dx dy ax ay bx byy) || (decide (onZ ax ay cx cy dx dy) || decide (onZ bx byy cx cy dx dy)))) || (decide (turnZ ax ay bx byy cx cy * turnZ ax ay bx byy dx dy < 0) && decide (turnZ cx cy dx dy ax ay * turnZ cx cy dx dy bx byy < 0))) := by
    rw [Bool.eq_iff_iff, decide_eq_true_iff]; simp only [crossZ, decide_eq_true_eq, Bool.or_eq_true, Bool.and_eq_true]
  rw [← hr, hq]
  clear hr hq ha hb hc hd
  generalize decide (onZ ax ay cx cy dx dy) = o1 at *
  generalize decide (onZ bx byy cx cy dx dy) = o2 at *
  generalize decide (onZ cx cy ax ay bx byy) = o3 at *
  generalize decide (onZ dx dy ax ay bx byy) = o4 at *
  generalize turnZ ax ay bx byy cx cy = t1 at *
  generalize turnZ ax ay bx byy dx dy = t2 at *
  generalize turnZ cx cy dx dy ax ay = t3 at *
  generalize turnZ cx cy dx dy bx byy = t4 at *
  go_enter Tryz.func54, Tryz.ntmps54
  go_upto_region 1 with (fail)
  obtain ⟨hP, HB⟩ := P4.mk w ax ay bx byy cx cy dx dy
  unfold pt at hP HB
  generalize World.alloc _ _ = wA at *
  obtain ⟨⟨_, _, _, _, _, _⟩, _, _⟩ := id hP
  have hcase : o1 = true ∨ (o1 = false ∧ o2 = true) ∨ (o1 = false ∧ o2 = false ∧ o3 = true) ∨ (o1 = false ∧ o2 = false ∧ o3 = false ∧ o4 = true) ∨ (o1 = false ∧ o2 = false ∧ o3 = false ∧ o4 = false) := by
    cases o1 <;> cases o2 <;> cases o3 <;> cases o4 <;> simp
  rcases hcase with rfl | ⟨rfl, rfl⟩ | ⟨rfl, rfl, rfl⟩ | ⟨rfl, rfl, rfl, rfl⟩ | ⟨rfl, rfl, rfl, rfl⟩
  iterate 4
    go_wp2_with (go_at_call 73; (first | (with_reducible refine (C1.out _).mono ?_) | (with_reducible refine (C2.out _).mono ?_) | (with_reducible refine (C3.out _).mono ?_) | (with_reducible refine (C4.out _).mono ?_)); rintro e w' ⟨rfl, hb⟩; replace HB := below_step HB hb; replace hP := P4.below hP hb; obtain ⟨⟨_, _, _, _, _, _⟩, _, _⟩ := id hP; clear hb)
    go_ret
    exact ⟨by simp, HB⟩
  have M1 := sg_t s1 s2
  have M2 := sg_t s3 s4
  go_upto_region 3 with (go_at_call 73; (first | (with_reducible refine (C1.out _).mono ?_) | (with_reducible refine (C2.out _).mono ?_) | (with_reducible refine (C3.out _).mono ?_) | (with_reducible refine (C4.out _).mono ?_)); rintro e w' ⟨rfl, hb⟩; replace HB := below_step HB hb; replace hP := P4.below hP hb; obtain ⟨⟨_, _, _, _, _, _⟩, _, _⟩ := id hP; clear hb)
  clear C1 C2 C3 C4
  by_cases hg : t1 * t2 < 0
  · have hg' : decide (t1 * t2 < 0) = true := decide_eq_true hg
    refine wp_region_held_drew (S := P4 w.heap.size ax ay bx byy cx cy dx dy) (by kernel_rfl) (hP.below (below_drew (Below.refl _ _))) (fun hH => ?_)
    replace HB := below_step HB (below_drew (Below.refl _ _))
    clear hP
    generalize World.drew _ = wB at *
    refine tk 0 31 (v := ?_) hH (by kernel_rfl) rfl rfl (fun _ _ _ h => h) (.inl ⟨by rfl, ?_⟩) ?_; rotate_left; (intro w' hw; obtain ⟨⟨_, _, _, _, _, _⟩, _, _⟩ := hw); (go_simp; try with_reducible rfl); simp only [Act.put, List.setIfInBounds_toArray, List.set_cons_zero, List.set_cons_succ]
    refine tk 1 32 (v := ?_) hH (by kernel_rfl) rfl rfl (fun _ _ _ h => h) (.inl ⟨by rfl, ?_⟩) ?_; rotate_left; (intro w' hw; obtain ⟨⟨_, _, _, _, _, _⟩, _, _⟩ := hw); (go_simp; try with_reducible rfl); simp only [Act.put, List.setIfInBounds_toArray, List.set_cons_zero, List.set_cons_succ]
    refine tk 2 33 (v := ?_) hH (by kernel_rfl) rfl rfl (fun _ _ _ h => h) (.inl ⟨by rfl, ?_⟩) ?_; rotate_left; (intro w' hw; obtain ⟨⟨_, _, _, _, _, _⟩, _, _⟩ := hw); (go_simp; try with_reducible rfl); simp only [Act.put, List.setIfInBounds_toArray, List.set_cons_zero, List.set_cons_succ]
    refine tk 4 35 (v := ?_) hH (by kernel_rfl) rfl rfl (fun _ _ _ h => h) (.inl ⟨by rfl, ?_⟩) ?_; rotate_left; (intro w' hw; obtain ⟨⟨_, _, _, _, _, _⟩, _, _⟩ := hw); (go_simp; try with_reducible rfl); simp only [Act.put, List.setIfInBounds_toArray, List.set_cons_zero, List.set_cons_succ]
    refine tk 5 36 (v := ?_) hH (by kernel_rfl) rfl rfl (fun _ _ _ h => h) (.inl ⟨by rfl, ?_⟩) ?_; rotate_left; (intro w' hw; obtain ⟨⟨_, _, _, _, _, _⟩, _, _⟩ := hw); (go_simp; try with_reducible rfl); simp only [Act.put, List.setIfInBounds_toArray, List.set_cons_zero, List.set_cons_succ]
    refine tk 6 37 (v := ?_) hH (by kernel_rfl) rfl rfl (fun _ _ _ h => h) (.inl ⟨by rfl, ?_⟩) ?_; rotate_left; (intro w' hw; obtain ⟨⟨_, _, _, _, _, _⟩, _, _⟩ := hw); (go_simp; try with_reducible rfl); simp only [Act.put, List.setIfInBounds_toArray, List.set_cons_zero, List.set_cons_succ]
    refine tc 3 34 (by kernel_rfl) rfl rfl (by rfl) Tryz.func53 (by kernel_rfl) rfl ((T1.out _).mono ?_) (by simp only [List.map_toArray, List.map_cons, List.map_nil]; rfl)
    rintro e w1 ⟨rfl, hb1⟩
    refine ⟨_, rfl, P4.below hH hb1, fun hH => ?_⟩
    simp only [Act.put, List.setIfInBounds_toArray, List.set_cons_zero, List.set_cons_succ]
    refine tc 7 38 (by kernel_rfl) rfl rfl (by rfl) Tryz.func53 (by kernel_rfl) rfl ((T2.out _).mono ?_) (by simp only [List.map_toArray, List.map_cons, List.map_nil]; rfl)
    rintro e w2 ⟨rfl, hb2⟩
    refine ⟨_, rfl, P4.below hH hb2, fun hH => ?_⟩
    simp only [Act.put, List.setIfInBounds_toArray, List.set_cons_zero, List.set_cons_succ]
    refine tk 8 39 (v := ?_) hH (by kernel_rfl) rfl rfl (fun _ _ _ h => h) (.inl ⟨by rfl, ?_⟩) ?_; rotate_left; (intro w' hw; obtain ⟨⟨_, _, _, _, _, _⟩, _, _⟩ := hw); (go_simp; try with_reducible rfl); simp only [Act.put, List.setIfInBounds_toArray, List.set_cons_zero, List.set_cons_succ]
    refine tk 9 40 (v := ?_) hH (by kernel_rfl) rfl rfl (fun _ _ _ h => h) (.inl ⟨by rfl, ?_⟩) ?_; rotate_left; (intro w' hw; obtain ⟨⟨_, _, _, _, _, _⟩, _, _⟩ := hw); (go_simp; try with_reducible rfl); simp only [Act.put, List.setIfInBounds_toArray, List.set_cons_zero, List.set_cons_succ]
    refine tk 10 41 (v := ?_) hH (by kernel_rfl) rfl rfl (fun _ _ _ h => h) (.inl ⟨by rfl, ?_⟩) ?_; rotate_left; (intro w' hw; obtain ⟨⟨_, _, _, _, _, _⟩, _, _⟩ := hw); (go_simp; try with_reducible rfl); simp only [Act.put, List.setIfInBounds_toArray, List.set_cons_zero, List.set_cons_succ]
    refine tk 11 42 (v := ?_) hH (by kernel_rfl) rfl rfl (fun _ _ _ h => h) (.inl ⟨by rfl, ?_⟩) ?_; rotate_left; (intro w' hw; obtain ⟨⟨_, _, _, _, _, _⟩, _, _⟩ := hw); (go_simp; try with_reducible rfl); simp only [Act.put, List.setIfInBounds_toArray, List.set_cons_zero, List.set_cons_succ]
    refine tk 12 43 (v := ?_) hH (by kernel_rfl) rfl rfl (fun _ _ _ h => h) (.inl ⟨by rfl, ?_⟩) ?_; rotate_left; (intro w' hw; obtain ⟨⟨_, _, _, _, _, _⟩, _, _⟩ := hw); (go_simp; try with_reducible rfl); simp only [Act.put, List.setIfInBounds_toArray, List.set_cons_zero, List.set_cons_succ]
    refine tk 13 44 (v := ?_) hH (by kernel_rfl) rfl rfl (fun _ _ _ h => h) (.inl ⟨by rfl, ?_⟩) ?_; rotate_left; (intro w' hw; obtain ⟨⟨_, _, _, _, _, _⟩, _, _⟩ := hw); (go_simp; try with_reducible rfl); simp only [Act.put, List.setIfInBounds_toArray, List.set_cons_zero, List.set_cons_succ]
    refine tk 15 46 (v := ?_) hH (by kernel_rfl) rfl rfl (fun _ _ _ h => h) (.inl ⟨by rfl, ?_⟩) ?_; rotate_left; (intro w' hw; obtain ⟨⟨_, _, _, _, _, _⟩, _, _⟩ := hw); (go_simp; try with_reducible rfl); simp only [Act.put, List.setIfInBounds_toArray, List.set_cons_zero, List.set_cons_succ]
    refine tk 16 47 (v := ?_) hH (by kernel_rfl) rfl rfl (fun _ _ _ h => h) (.inl ⟨by rfl, ?_⟩) ?_; rotate_left; (intro w' hw; obtain ⟨⟨_, _, _, _, _, _⟩, _, _⟩ := hw); (go_simp; try with_reducible rfl); simp only [Act.put, List.setIfInBounds_toArray, List.set_cons_zero, List.set_cons_succ]
    refine tk 17 48 (v := ?_) hH (by kernel_rfl) rfl rfl (fun _ _ _ h => h) (.inl ⟨by rfl, ?_⟩) ?_; rotate_left; (intro w' hw; obtain ⟨⟨_, _, _, _, _, _⟩, _, _⟩ := hw); (go_simp; try with_reducible rfl); simp only [Act.put, List.setIfInBounds_toArray, List.set_cons_zero, List.set_cons_succ]
    refine tc 14 45 (by kernel_rfl) rfl rfl (by rfl) Tryz.func53 (by kernel_rfl) rfl ((T3.out _).mono ?_) (by simp only [List.map_toArray, List.map_cons, List.map_nil]; rfl)
    rintro e w3 ⟨rfl, hb3⟩
    refine ⟨_, rfl, P4.below hH hb3, fun hH => ?_⟩
    simp only [Act.put, List.setIfInBounds_toArray, List.set_cons_zero, List.set_cons_succ]
    refine tc 18 49 (by kernel_rfl) rfl rfl (by rfl) Tryz.func53 (by kernel_rfl) rfl ((T4.out _).mono ?_) (by simp only [List.map_toArray, List.map_cons, List.map_nil]; rfl)
    rintro e w4 ⟨rfl, hb4⟩
    refine ⟨_, rfl, P4.below hH hb4, fun hH => ?_⟩
    simp only [Act.put, List.setIfInBounds_toArray, List.set_cons_zero, List.set_cons_succ]
    refine tk 19 50 (v := ?_) hH (by kernel_rfl) rfl rfl (fun _ _ _ h => h) (.inl ⟨by rfl, ?_⟩) ?_; rotate_left; (intro w' hw; obtain ⟨⟨_, _, _, _, _, _⟩, _, _⟩ := hw); (go_simp; try with_reducible rfl); simp only [Act.put, List.setIfInBounds_toArray, List.set_cons_zero, List.set_cons_succ]
    refine tk 20 51 (v := ?_) hH (by kernel_rfl) rfl rfl (fun _ _ _ h => h) (.inl ⟨by rfl, ?_⟩) ?_; rotate_left; (intro w' hw; obtain ⟨⟨_, _, _, _, _, _⟩, _, _⟩ := hw); (go_simp; try with_reducible rfl); simp only [Act.put, List.setIfInBounds_toArray, List.set_cons_zero, List.set_cons_succ]
    refine tk 21 52 (v := ?_) hH (by kernel_rfl) rfl rfl (fun _ _ _ h => h) (.inl ⟨by rfl, ?_⟩) ?_; rotate_left; (intro w' hw; obtain ⟨⟨_, _, _, _, _, _⟩, _, _⟩ := hw); (go_simp; try with_reducible rfl); simp only [Act.put, List.setIfInBounds_toArray, List.set_cons_zero, List.set_cons_succ]
    refine tk 22 8 (v := ?_) hH (by kernel_rfl) rfl rfl (fun _ _ _ h => h) (.inl ⟨by rfl, ?_⟩) ?_; rotate_left; (intro w' hw; obtain ⟨⟨_, _, _, _, _, _⟩, _, _⟩ := hw); (go_simp; try with_reducible rfl); simp only [Act.put, List.setIfInBounds_toArray, List.set_cons_zero, List.set_cons_succ]
    refine wpAnyH_done (by kernel_rfl) ?_ _
    go_wp2
    go_ret
    exact ⟨by simp [hg], below_step (below_step (below_step (below_step HB hb1) hb2) hb3) hb4⟩
  · have hg' : decide (t1 * t2 < 0) = false := decide_eq_false hg
    refine wp_region_held_drew (S := P4 w.heap.size ax ay bx byy cx cy dx dy) (by kernel_rfl) (hP.below (below_drew (Below.refl _ _))) (fun hH => ?_)
    replace HB := below_step HB (below_drew (Below.refl _ _))
    clear hP
    generalize World.drew _ = wB at *
    refine tk 0 31 (v := ?_) hH (by kernel_rfl) rfl rfl (fun _ _ _ h => h) (.inl ⟨by rfl, ?_⟩) ?_; rotate_left; (intro w' hw; obtain ⟨⟨_, _, _, _, _, _⟩, _, _⟩ := hw); (go_simp; try with_reducible rfl); simp only [Act.put, List.setIfInBounds_toArray, List.set_cons_zero, List.set_cons_succ]
    refine tk 1 32 (v := ?_) hH (by kernel_rfl) rfl rfl (fun _ _ _ h => h) (.inl ⟨by rfl, ?_⟩) ?_; rotate_left; (intro w' hw; obtain ⟨⟨_, _, _, _, _, _⟩, _, _⟩ := hw); (go_simp; try with_reducible rfl); simp only [Act.put, List.setIfInBounds_toArray, List.set_cons_zero, List.set_cons_succ]
    refine tk 2 33 (v := ?_) hH (by kernel_rfl) rfl rfl (fun _ _ _ h => h) (.inl ⟨by rfl, ?_⟩) ?_; rotate_left; (intro w' hw; obtain ⟨⟨_, _, _, _, _, _⟩, _, _⟩ := hw); (go_simp; try with_reducible rfl); simp only [Act.put, List.setIfInBounds_toArray, List.set_cons_zero, List.set_cons_succ]
    refine tk 4 35 (v := ?_) hH (by kernel_rfl) rfl rfl (fun _ _ _ h => h) (.inl ⟨by rfl, ?_⟩) ?_; rotate_left; (intro w' hw; obtain ⟨⟨_, _, _, _, _, _⟩, _, _⟩ := hw); (go_simp; try with_reducible rfl); simp only [Act.put, List.setIfInBounds_toArray, List.set_cons_zero, List.set_cons_succ]
    refine tk 5 36 (v := ?_) hH (by kernel_rfl) rfl rfl (fun _ _ _ h => h) (.inl ⟨by rfl, ?_⟩) ?_; rotate_left; (intro w' hw; obtain ⟨⟨_, _, _, _, _, _⟩, _, _⟩ := hw); (go_simp; try with_reducible rfl); simp only [Act.put, List.setIfInBounds_toArray, List.set_cons_zero, List.set_cons_succ]
    refine tk 6 37 (v := ?_) hH (by kernel_rfl) rfl rfl (fun _ _ _ h => h) (.inl ⟨by rfl, ?_⟩) ?_; rotate_left; (intro w' hw; obtain ⟨⟨_, _, _, _, _, _⟩, _, _⟩ := hw); (go_simp; try with_reducible rfl); simp only [Act.put, List.setIfInBounds_toArray, List.set_cons_zero, List.set_cons_succ]
    refine tc 3 34 (by kernel_rfl) rfl rfl (by rfl) Tryz.func53 (by kernel_rfl) rfl ((T1.out _).mono ?_) (by simp only [List.map_toArray, List.map_cons, List.map_nil]; rfl)
    rintro e w1 ⟨rfl, hb1⟩
    refine ⟨_, rfl, P4.below hH hb1, fun hH => ?_⟩
    simp only [Act.put, List.setIfInBounds_toArray, List.set_cons_zero, List.set_cons_succ]
    refine tc 7 38 (by kernel_rfl) rfl rfl (by rfl) Tryz.func53 (by kernel_rfl) rfl ((T2.out _).mono ?_) (by simp only [List.map_toArray, List.map_cons, List.map_nil]; rfl)
    rintro e w2 ⟨rfl, hb2⟩
    refine ⟨_, rfl, P4.below hH hb2, fun hH => ?_⟩
    simp only [Act.put, List.setIfInBounds_toArray, List.set_cons_zero, List.set_cons_succ]
    refine tk 8 39 (v := ?_) hH (by kernel_rfl) rfl rfl (fun _ _ _ h => h) (.inl ⟨by rfl, ?_⟩) ?_; rotate_left; (intro w' hw; obtain ⟨⟨_, _, _, _, _, _⟩, _, _⟩ := hw); (go_simp; try with_reducible rfl); simp only [Act.put, List.setIfInBounds_toArray, List.set_cons_zero, List.set_cons_succ]
    refine tk 9 40 (v := ?_) hH (by kernel_rfl) rfl rfl (fun _ _ _ h => h) (.inl ⟨by rfl, ?_⟩) ?_; rotate_left; (intro w' hw; obtain ⟨⟨_, _, _, _, _, _⟩, _, _⟩ := hw); (go_simp; try with_reducible rfl); simp only [Act.put, List.setIfInBounds_toArray, List.set_cons_zero, List.set_cons_succ]
    refine tk 10 41 (v := ?_) hH (by kernel_rfl) rfl rfl (fun _ _ _ h => h) (.inl ⟨by rfl, ?_⟩) ?_; rotate_left; (intro w' hw; obtain ⟨⟨_, _, _, _, _, _⟩, _, _⟩ := hw); (go_simp; try with_reducible rfl); simp only [Act.put, List.setIfInBounds_toArray, List.set_cons_zero, List.set_cons_succ]
    refine tk 11 42 hH (by kernel_rfl) rfl rfl (fun _ _ _ h => h) (.inr ⟨by rfl, rfl⟩) ?_; simp only [Act.put, List.setIfInBounds_toArray, List.set_cons_zero, List.set_cons_succ]
    refine tk 12 43 hH (by kernel_rfl) rfl rfl (fun _ _ _ h => h) (.inr ⟨by rfl, rfl⟩) ?_; simp only [Act.put, List.setIfInBounds_toArray, List.set_cons_zero, List.set_cons_succ]
    refine tk 13 44 hH (by kernel_rfl) rfl rfl (fun _ _ _ h => h) (.inr ⟨by rfl, rfl⟩) ?_; simp only [Act.put, List.setIfInBounds_toArray, List.set_cons_zero, List.set_cons_succ]
    refine tk 15 46 hH (by kernel_rfl) rfl rfl (fun _ _ _ h => h) (.inr ⟨by rfl, rfl⟩) ?_; simp only [Act.put, List.setIfInBounds_toArray, List.set_cons_zero, List.set_cons_succ]
    refine tk 16 47 hH (by kernel_rfl) rfl rfl (fun _ _ _ h => h) (.inr ⟨by rfl, rfl⟩) ?_; simp only [Act.put, List.setIfInBounds_toArray, List.set_cons_zero, List.set_cons_succ]
    refine tk 17 48 hH (by kernel_rfl) rfl rfl (fun _ _ _ h => h) (.inr ⟨by rfl, rfl⟩) ?_; simp only [Act.put, List.setIfInBounds_toArray, List.set_cons_zero, List.set_cons_succ]
    refine tk 14 45 hH (by kernel_rfl) rfl rfl (fun _ _ _ h => h) (.inr ⟨by rfl, rfl⟩) ?_; simp only [Act.put, List.setIfInBounds_toArray, List.set_cons_zero, List.set_cons_succ]
    refine tk 18 49 hH (by kernel_rfl) rfl rfl (fun _ _ _ h => h) (.inr ⟨by rfl, rfl⟩) ?_; simp only [Act.put, List.setIfInBounds_toArray, List.set_cons_zero, List.set_cons_succ]
    refine tk 19 50 hH (by kernel_rfl) rfl rfl (fun _ _ _ h => h) (.inr ⟨by rfl, rfl⟩) ?_; simp only [Act.put, List.setIfInBounds_toArray, List.set_cons_zero, List.set_cons_succ]
    refine tk 20 51 hH (by kernel_rfl) rfl rfl (fun _ _ _ h => h) (.inr ⟨by rfl, rfl⟩) ?_; simp only [Act.put, List.setIfInBounds_toArray, List.set_cons_zero, List.set_cons_succ]
    refine tk 21 52 (v := ?_) hH (by kernel_rfl) rfl rfl (fun _ _ _ h => h) (.inl ⟨by rfl, ?_⟩) ?_; rotate_left; (intro w' hw; obtain ⟨⟨_, _, _, _, _, _⟩, _, _⟩ := hw); (go_simp; try with_reducible rfl); simp only [Act.put, List.setIfInBounds_toArray, List.set_cons_zero, List.set_cons_succ]
    refine tk 22 8 (v := ?_) hH (by kernel_rfl) rfl rfl (fun _ _ _ h => h) (.inl ⟨by rfl, ?_⟩) ?_; rotate_left; (intro w' hw; obtain ⟨⟨_, _, _, _, _, _⟩, _, _⟩ := hw); (go_simp; try with_reducible rfl); simp only [Act.put, List.setIfInBounds_toArray, List.set_cons_zero, List.set_cons_succ]
    refine wpAnyH_done (by kernel_rfl) ?_ _
    go_wp2
    go_ret
    exact ⟨by simp [hg], below_step (below_step HB hb1) hb2⟩
set_option maxHeartbeats 4000000 in
set_option maxRecDepth 100000 in
theorem refCross_calls (ax ay bx byy cx cy dx dy : Int) (r : Bool) (e2 : Int) (hr : (if okP ax ay ∧ okP bx byy ∧ okP cx cy ∧ okP dx dy then (decide (crossZ ax ay bx byy cx cy dx dy), (0 : Int)) else (false, 300)) = (r, e2)) (w : World) :
    Calls Tryz.prog 36 #[.agg #[.int .i64 ax, .int .i64 ay], .agg #[.int .i64 bx, .int .i64 byy], .agg #[.int .i64 cx, .int .i64 cy], .agg #[.int .i64 dx, .int .i64 dy]] w fun e w' => e = .returned (.tuple #[.bool r, .int .i64 e2]) ∧ Below w.heap.size w w' := by
  have C : Aside0 (okP ax ay → okP bx byy → okP cx cy → okP dx dy → ∀ w, Calls Tryz.prog 54 #[.agg #[.int .i64 ax, .int .i64 ay], .agg #[.int .i64 bx, .int .i64 byy], .agg #[.int .i64 cx, .int .i64 cy], .agg #[.int .i64 dx, .int .i64 dy]] w fun e w' => e = .returned (.bool (decide (crossZ ax ay bx byy cx cy dx dy))) ∧ Below w.heap.size w w') := ⟨fun ha hb hc hd => cross_calls ax ay bx byy cx cy dx dy ha hb hc hd _ rfl⟩
  generalize decide (crossZ ax ay bx byy cx cy dx dy) = q at *
  have C1 := Aside0.mk (refpt_calls ax ay _ rfl)
  have C2 := Aside0.mk (refpt_calls bx byy _ rfl)
  have C3 := Aside0.mk (refpt_calls cx cy _ rfl)
  have C4 := Aside0.mk (refpt_calls dx dy _ rfl)
  go_enter Tryz.func36, Tryz.ntmps36
  go_upto_region 1 with (fail)
  obtain ⟨hP, HB⟩ := P4.mk w ax ay bx byy cx cy dx dy
  unfold pt at hP HB
  generalize World.alloc _ _ = wA at *
  obtain ⟨⟨_, _, _, _, _, _⟩, _, _⟩ := id hP
  have hcase : (decide (okP ax ay) = false) ∨ (decide (okP ax ay) = true ∧ decide (okP bx byy) = false) ∨ (decide (okP ax ay) = true ∧ decide (okP bx byy) = true ∧ decide (okP cx cy) = false) ∨ (decide (okP ax ay) = true ∧ decide (okP bx byy) = true ∧ decide (okP cx cy) = true ∧ decide (okP dx dy) = false) ∨ (decide (okP ax ay) = true ∧ decide (okP bx byy) = true ∧ decide (okP cx cy) = true ∧ decide (okP dx dy) = true) := by
    cases decide (okP ax ay) <;> cases decide (okP bx byy) <;> cases decide (okP cx cy) <;> cases decide (okP dx dy) <;> simp
  rcases hcase with h1 | ⟨h1, h2⟩ | ⟨h1, h2, h3⟩ | ⟨h1, h2, h3, h4⟩ | ⟨h1, h2, h3, h4⟩
  iterate 4
    rw [if_neg (by simp_all only [decide_eq_true_eq, decide_eq_false_iff_not, not_true, not_false_eq_true, true_and, false_and, and_false, and_true])] at hr
    (first | rw [h1] at C1 | skip); (first | rw [h2] at C2 | skip); (first | rw [h3] at C3 | skip); (first | rw [h4] at C4 | skip)
    obtain ⟨rfl, rfl⟩ := Prod.mk.injEq _ _ _ _ |>.mp hr
    clear C hr
    go_wp2_with (go_at_call 25; (first | (with_reducible refine (C1.out _).mono ?_) | (with_reducible refine (C2.out _).mono ?_) | (with_reducible refine (C3.out _).mono ?_) | (with_reducible refine (C4.out _).mono ?_)); rintro e w' ⟨rfl, hb⟩; replace HB := below_step HB hb; replace hP := P4.below hP hb; obtain ⟨⟨_, _, _, _, _, _⟩, _, _⟩ := id hP; clear hb)
    go_ret2
    exact ⟨rfl, HB⟩
  rw [if_pos (by simp_all only [decide_eq_true_eq, and_self])] at hr
  replace C := Aside0.mk (C.out (of_decide_eq_true h1) (of_decide_eq_true h2) (of_decide_eq_true h3) (of_decide_eq_true h4))
  rw [h1] at C1; rw [h2] at C2; rw [h3] at C3; rw [h4] at C4
  obtain ⟨rfl, rfl⟩ := Prod.mk.injEq _ _ _ _ |>.mp hr
  clear hr h1 h2 h3 h4
  go_wp2_with (first
    | (go_at_call 25; (first | (with_reducible refine (C1.out _).mono ?_) | (with_reducible refine (C2.out _).mono ?_) | (with_reducible refine (C3.out _).mono ?_) | (with_reducible refine (C4.out _).mono ?_)); rintro e w' ⟨rfl, hb⟩; replace HB := below_step HB hb; replace hP := P4.below hP hb; obtain ⟨⟨_, _, _, _, _, _⟩, _, _⟩ := id hP; clear hb)
    | (go_at_call 54; (with_reducible refine (C.out _).mono ?_); rintro e w' ⟨rfl, hb⟩; replace HB := below_step HB hb; clear hb))
  go_ret2
  exact ⟨rfl, HB⟩
set_option maxHeartbeats 4000000 in
set_option maxRecDepth 100000 in
theorem refTurn_calls (ax ay bx byy cx cy r e2 : Int) (hr : (if okP ax ay ∧ okP bx byy ∧ okP cx cy then (turnZ ax ay bx byy cx cy, (0 : Int)) else (0, 300)) = (r, e2)) (w : World) :
    Calls Tryz.prog 34 #[.agg #[.int .i64 ax, .int .i64 ay], .agg #[.int .i64 bx, .int .i64 byy], .agg #[.int .i64 cx, .int .i64 cy]] w fun e w' => e = .returned (.tuple #[.int .i64 r, .int .i64 e2]) ∧ Below w.heap.size w w' := by
  have C : Aside0 (okP ax ay → okP bx byy → okP cx cy → ∀ w, Calls Tryz.prog 53 #[.agg #[.int .i64 ax, .int .i64 ay], .agg #[.int .i64 bx, .int .i64 byy], .agg #[.int .i64 cx, .int .i64 cy]] w fun e w' => e = .returned (.int .i64 (turnZ ax ay bx byy cx cy)) ∧ Below w.heap.size w w') := ⟨fun ha hb hc => refturn_calls ax ay bx byy cx cy ha hb hc⟩
  generalize turnZ ax ay bx byy cx cy = q at *
  have C1 := Aside0.mk (refpt_calls ax ay _ rfl)
  have C2 := Aside0.mk (refpt_calls bx byy _ rfl)
  have C3 := Aside0.mk (refpt_calls cx cy _ rfl)
  go_enter Tryz.func34, Tryz.ntmps34
  go_upto_region 1 with (fail)
  obtain ⟨hP, HB⟩ := P3.mk w ax ay bx byy cx cy
  unfold pt at hP HB
  generalize World.alloc _ _ = wA at *
  obtain ⟨_, _, _, _, _, _⟩ := id hP
  have hcase : (decide (okP ax ay) = false) ∨ (decide (okP ax ay) = true ∧ decide (okP bx byy) = false) ∨ (decide (okP ax ay) = true ∧ decide (okP bx byy) = true ∧ decide (okP cx cy) = false) ∨ (decide (okP ax ay) = true ∧ decide (okP bx byy) = true ∧ decide (okP cx cy) = true) := by
    cases decide (okP ax ay) <;> cases decide (okP bx byy) <;> cases decide (okP cx cy) <;> simp
  rcases hcase with h1 | ⟨h1, h2⟩ | ⟨h1, h2, h3⟩ | ⟨h1, h2, h3⟩
  iterate 3
    rw [if_neg (by simp_all only [decide_eq_true_eq, decide_eq_false_iff_not, not_true, not_false_eq_true, true_and, false_and, and_false, and_true])] at hr
    (first | rw [h1] at C1 | skip); (first | rw [h2] at C2 | skip); (first | rw [h3] at C3 | skip)
    obtain ⟨rfl, rfl⟩ := Prod.mk.injEq _ _ _ _ |>.mp hr
    clear C hr
    go_wp2_with (go_at_call 25; (first | (with_reducible refine (C1.out _).mono ?_) | (with_reducible refine (C2.out _).mono ?_) | (with_reducible refine (C3.out _).mono ?_)); rintro e w' ⟨rfl, hb⟩; replace HB := below_step HB hb; replace hP := P3.below hP hb; obtain ⟨_, _, _, _, _, _⟩ := id hP; clear hb)
    go_ret2
    exact ⟨rfl, HB⟩
  rw [if_pos (by simp_all only [decide_eq_true_eq, and_self])] at hr
  replace C := Aside0.mk (C.out (of_decide_eq_true h1) (of_decide_eq_true h2) (of_decide_eq_true h3))
  rw [h1] at C1; rw [h2] at C2; rw [h3] at C3
  obtain ⟨rfl, rfl⟩ := Prod.mk.injEq _ _ _ _ |>.mp hr
  clear hr h1 h2 h3
  go_wp2_with (first
    | (go_at_call 25; (first | (with_reducible refine (C1.out _).mono ?_) | (with_reducible refine (C2.out _).mono ?_) | (with_reducible refine (C3.out _).mono ?_)); rintro e w' ⟨rfl, hb⟩; replace HB := below_step HB hb; replace hP := P3.below hP hb; obtain ⟨_, _, _, _, _, _⟩ := id hP; clear hb)
    | (go_at_call 53; (with_reducible refine (C.out _).mono ?_); rintro e w' ⟨rfl, hb⟩; replace HB := below_step HB hb; clear hb))
  go_ret2
  exact ⟨rfl, HB⟩
end Go.Proofs.YtibakeahgcakmaaGreatDoor
