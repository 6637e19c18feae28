/- The program's Cross, and the console's cross: the walks. -/
import Derived.Test.YtibakeahgcakmaaGreatDoorUBox
set_option linter.unusedVariables false
set_option linter.unusedSimpArgs false
namespace Go.Proofs.YtibakeahgcakmaaGreatDoor
open Go.Shelf Go.RowKit Go.Proofs.YtibakeahgcakmaaGreatDoorW.PrintWords Go.Proofs.YtibakeahgcakmaaGreatDoorW.PrintLast Go.Proofs.YtibakeahgcakmaaGreatDoorW.PrintMore PF Curve

set_option maxHeartbeats 4000000 in
set_option maxRecDepth 100000 in
theorem geomOn_calls (px py ax ay bx byy : Int) (hp : okP px py) (ha : okP ax ay) (hb : okP bx byy) (w : World) : Calls Tryz.prog 82 #[.agg #[.int .i64 px, .int .i64 py], .agg #[.int .i64 ax, .int .i64 ay], .agg #[.int .i64 bx, .int .i64 byy]] w fun e w' =>
    e = .returned (.bool (decide (onZ px py ax ay bx byy))) ∧ Below w.heap.size w w' := geom_On.calls 20 _ _ _ _ _ _ _ w (On_eq 20 _ _ _ _ _ _ (by omega) hp ha hb)
theorem geomturn_calls (ax ay bx byy cx cy : Int) (ha : okP ax ay) (hb : okP bx byy) (hc : okP cx cy) (w : World) : Calls Tryz.prog 81 #[.agg #[.int .i64 ax, .int .i64 ay], .agg #[.int .i64 bx, .int .i64 byy], .agg #[.int .i64 cx, .int .i64 cy]] w fun e w' =>
    e = .returned (.int .i64 (turnZ ax ay bx byy cx cy)) ∧ Below w.heap.size w w' := geom_turn.calls 20 _ _ _ _ _ _ _ w (turn_eq 20 _ _ _ _ _ _ (by omega) ha hb hc)
theorem geompt_calls (x y : Int) (w : World) : Calls Tryz.prog 80 #[.agg #[.int .i64 x, .int .i64 y]] w fun e w' => e = .returned (.bool (decide (okP x y))) ∧ Below w.heap.size w w' :=
  geom_PointMay.calls x y _ w (PointMay_ok x y)
set_option maxHeartbeats 4000000 in
set_option maxRecDepth 100000 in
theorem geomCross_bad (ax ay bx byy cx cy dx dy : Int) (hn : ¬ (okP ax ay ∧ okP bx byy ∧ okP cx cy ∧ okP dx dy)) (w : World) :
    Calls Tryz.prog 65 #[.agg #[.int .i64 ax, .int .i64 ay], .agg #[.int .i64 bx, .int .i64 byy], .agg #[.int .i64 cx, .int .i64 cy], .agg #[.int .i64 dx, .int .i64 dy]] w fun e w' => e = .returned (.tuple #[.bool false, .int .i64 300]) ∧ Below w.heap.size w w' := by
  have C1 := Aside0.mk (geompt_calls ax ay)
  have C2 := Aside0.mk (geompt_calls bx byy)
  have C3 := Aside0.mk (geompt_calls cx cy)
  have C4 := Aside0.mk (geompt_calls dx dy)
  go_enter Tryz.func65, Tryz.ntmps65
  go_upto_region 1 with (fail)
  obtain ⟨hP, HB⟩ := P4.mk w ax ay bx byy cx cy dx dy
  unfold pt at hP HB
  generalize World.alloc _ _ = wA at *
  obtain ⟨⟨_, _, _, _, _, _⟩, _, _⟩ := id hP
  have hcase : (decide (okP ax ay) = false) ∨ (decide (okP ax ay) = true ∧ decide (okP bx byy) = false) ∨ (decide (okP ax ay) = true ∧ decide (okP bx byy) = true ∧ decide (okP cx cy) = false) ∨ (decide (okP ax ay) = true ∧ decide (okP bx byy) = true ∧ decide (okP cx cy) = true ∧ decide (okP dx dy) = false) := by
    simp only [decide_eq_true_eq, decide_eq_false_iff_not]
    by_cases h1 : okP ax ay <;> by_cases h2 : okP bx byy <;> by_cases h3 : okP cx cy <;> by_cases h4 : okP dx dy <;> simp_all
  clear hn
  rcases hcase with h1 | ⟨h1, h2⟩ | ⟨h1, h2, h3⟩ | ⟨h1, h2, h3, h4⟩
  iterate 4
    (first | rw [h1] at C1 | skip); (first | rw [h2] at C2 | skip); (first | rw [h3] at C3 | skip); (first | rw [h4] at C4 | skip)
    go_wp2_with (go_at_call 80; (first | (with_reducible refine (C1.out _).mono ?_) | (with_reducible refine (C2.out _).mono ?_) | (with_reducible refine (C3.out _).mono ?_) | (with_reducible refine (C4.out _).mono ?_)); rintro e w' ⟨rfl, hb⟩; replace HB := below_step HB hb; replace hP := P4.below hP hb; obtain ⟨⟨_, _, _, _, _, _⟩, _, _⟩ := id hP; clear hb)
    go_ret2
    exact ⟨rfl, HB⟩
set_option maxHeartbeats 4000000 in
set_option maxRecDepth 100000 in
theorem geomCross_ok (ax ay bx byy cx cy dx dy : Int) (ha : okP ax ay) (hb : okP bx byy) (hc : okP cx cy) (hd : okP dx dy) (w : World) :
    Calls Tryz.prog 65 #[.agg #[.int .i64 ax, .int .i64 ay], .agg #[.int .i64 bx, .int .i64 byy], .agg #[.int .i64 cx, .int .i64 cy], .agg #[.int .i64 dx, .int .i64 dy]] w fun e w' => e = .returned (.tuple #[.bool (decide (crossZ ax ay bx byy cx cy dx dy)), .int .i64 0]) ∧ Below w.heap.size w w' := by
  have C1 := Aside0.mk (geomOn_calls cx cy ax ay bx byy hc ha hb)
  have C2 := Aside0.mk (geomOn_calls dx dy ax ay bx byy hd ha hb)
  have C3 := Aside0.mk (geomOn_calls ax ay cx cy dx dy ha hc hd)
  have C4 := Aside0.mk (geomOn_calls bx byy cx cy dx dy hb hc hd)
  have T1 := Aside0.mk (geomturn_calls ax ay bx byy cx cy ha hb hc)
  have T2 := Aside0.mk (geomturn_calls ax ay bx byy dx dy ha hb hd)
  have T3 := Aside0.mk (geomturn_calls cx cy dx dy ax ay hc hd ha)
  have T4 := Aside0.mk (geomturn_calls cx cy dx dy bx byy hc hd hb)
  have D1 := Aside0.mk (geompt_calls ax ay)
  have D2 := Aside0.mk (geompt_calls bx byy)
  have D3 := Aside0.mk (geompt_calls cx cy)
  have D4 := Aside0.mk (geompt_calls dx dy)
  rw [decide_eq_true ha] at D1
  rw [decide_eq_true hb] at D2
  rw [decide_eq_true hc] at D3
  rw [decide_eq_true hd] at D4
  have s1 := sg_cases ((bx - ax) * (cy - ay) - (byy - ay) * (cx - ax))
  have s2 := sg_cases ((bx - ax) * (dy - ay) - (byy - ay) * (dx - ax))
  have s3 := sg_cases ((dx - cx) * (ay - cy) - (dy - cy) * (ax - cx))
  have s4 := sg_cases ((dx - cx) * (byy - cy) - (dy - cy) * (bx - cx))
  change turnZ ax ay bx byy cx cy = -1 ∨ turnZ ax ay bx byy cx cy = 0 ∨ turnZ ax ay bx byy cx cy = 1 at s1
  change turnZ ax ay bx byy dx dy = -1 ∨ turnZ ax ay bx byy dx dy = 0 ∨ turnZ ax ay bx byy dx dy = 1 at s2
  change turnZ cx cy dx dy ax ay = -1 ∨ turnZ cx cy dx dy ax ay = 0 ∨ turnZ cx cy dx dy ax ay = 1 at s3
  change turnZ cx cy dx dy bx byy = -1 ∨ turnZ cx cy dx dy bx byy = 0 ∨ turnZ cx cy dx dy bx byy = 1 at s4
  have hq : decide (crossZ ax ay bx byy cx cy dx dy) = ((decide (onZ cx cy ax ay bx byy) || (decide (onZ dx dy ax ay bx byy) || (decide (onZ ax ay cx cy dx dy) || decide (onZ bx byy cx cy dx dy)))) || (decide (turnZ ax ay bx byy cx cy * turnZ ax ay bx byy dx dy < 0) && decide (turnZ cx cy dx dy ax ay * turnZ cx cy dx dy bx byy < 0))) := by
    rw [Bool.eq_iff_iff, decide_eq_true_iff]; simp only [crossZ, decide_eq_true_eq, Bool.or_eq_true, Bool.and_eq_true]
  rw [hq]
  clear hq ha hb hc hd
  generalize decide (onZ cx cy ax ay bx byy) = o1 at *
  generalize decide (onZ dx dy ax ay bx byy) = o2 at *
  generalize decide (onZ ax ay cx cy dx dy) = o3 at *
  generalize decide (onZ bx byy cx cy dx dy) = o4 at *
  generalize turnZ ax ay bx byy cx cy = t1 at *
  generalize turnZ ax ay bx byy dx dy = t2 at *
  generalize turnZ cx cy dx dy ax ay = t3 at *
  generalize turnZ cx cy dx dy bx byy = t4 at *
  go_enter Tryz.func65, Tryz.ntmps65
  go_upto_region 1 with (fail)
  obtain ⟨hP, HB⟩ := P4.mk w ax ay bx byy cx cy dx dy
  unfold pt at hP HB
  generalize World.alloc _ _ = wA at *
  obtain ⟨⟨_, _, _, _, _, _⟩, _, _⟩ := id hP
  go_upto_region 3 with (go_at_call 80; (first | (with_reducible refine (D1.out _).mono ?_) | (with_reducible refine (D2.out _).mono ?_) | (with_reducible refine (D3.out _).mono ?_) | (with_reducible refine (D4.out _).mono ?_)); rintro e w' ⟨rfl, hb⟩; replace HB := below_step HB hb; replace hP := P4.below hP hb; obtain ⟨⟨_, _, _, _, _, _⟩, _, _⟩ := id hP; clear hb)
  clear D1 D2 D3 D4
  have hcase : o1 = true ∨ (o1 = false ∧ o2 = true) ∨ (o1 = false ∧ o2 = false ∧ o3 = true) ∨ (o1 = false ∧ o2 = false ∧ o3 = false ∧ o4 = true) ∨ (o1 = false ∧ o2 = false ∧ o3 = false ∧ o4 = false) := by
    cases o1 <;> cases o2 <;> cases o3 <;> cases o4 <;> simp
  rcases hcase with rfl | ⟨rfl, rfl⟩ | ⟨rfl, rfl, rfl⟩ | ⟨rfl, rfl, rfl, rfl⟩ | ⟨rfl, rfl, rfl, rfl⟩
  iterate 4
    go_wp2_with (go_at_call 82; (first | (with_reducible refine (C1.out _).mono ?_) | (with_reducible refine (C2.out _).mono ?_) | (with_reducible refine (C3.out _).mono ?_) | (with_reducible refine (C4.out _).mono ?_)); rintro e w' ⟨rfl, hb⟩; replace HB := below_step HB hb; replace hP := P4.below hP hb; obtain ⟨⟨_, _, _, _, _, _⟩, _, _⟩ := id hP; clear hb)
    go_ret2
    exact ⟨by simp, HB⟩
  have M1 := sg_t s1 s2
  have M2 := sg_t s3 s4
  go_upto_region 5 with (go_at_call 82; (first | (with_reducible refine (C1.out _).mono ?_) | (with_reducible refine (C2.out _).mono ?_) | (with_reducible refine (C3.out _).mono ?_) | (with_reducible refine (C4.out _).mono ?_)); rintro e w' ⟨rfl, hb⟩; replace HB := below_step HB hb; replace hP := P4.below hP hb; obtain ⟨⟨_, _, _, _, _, _⟩, _, _⟩ := id hP; clear hb)
  clear C1 C2 C3 C4
  by_cases hg : t1 * t2 < 0
  · have hg' : decide (t1 * t2 < 0) = true := decide_eq_true hg
    refine wp_region_held_drew (S := P4 w.heap.size ax ay bx byy cx cy dx dy) (by kernel_rfl) (hP.below (below_drew (Below.refl _ _))) (fun hH => ?_)
    replace HB := below_step HB (below_drew (Below.refl _ _))
    clear hP
    generalize World.drew _ = wB at *
    refine tk 0 50 (v := ?_) hH (by kernel_rfl) rfl rfl (fun _ _ _ h => h) (.inl ⟨by rfl, ?_⟩) ?_; rotate_left; (intro w' hw; obtain ⟨⟨_, _, _, _, _, _⟩, _, _⟩ := hw); (go_simp; try with_reducible rfl); simp only [Act.put, List.setIfInBounds_toArray, List.set_cons_zero, List.set_cons_succ]
    refine tk 1 51 (v := ?_) hH (by kernel_rfl) rfl rfl (fun _ _ _ h => h) (.inl ⟨by rfl, ?_⟩) ?_; rotate_left; (intro w' hw; obtain ⟨⟨_, _, _, _, _, _⟩, _, _⟩ := hw); (go_simp; try with_reducible rfl); simp only [Act.put, List.setIfInBounds_toArray, List.set_cons_zero, List.set_cons_succ]
    refine tk 2 52 (v := ?_) hH (by kernel_rfl) rfl rfl (fun _ _ _ h => h) (.inl ⟨by rfl, ?_⟩) ?_; rotate_left; (intro w' hw; obtain ⟨⟨_, _, _, _, _, _⟩, _, _⟩ := hw); (go_simp; try with_reducible rfl); simp only [Act.put, List.setIfInBounds_toArray, List.set_cons_zero, List.set_cons_succ]
    refine tk 4 54 (v := ?_) hH (by kernel_rfl) rfl rfl (fun _ _ _ h => h) (.inl ⟨by rfl, ?_⟩) ?_; rotate_left; (intro w' hw; obtain ⟨⟨_, _, _, _, _, _⟩, _, _⟩ := hw); (go_simp; try with_reducible rfl); simp only [Act.put, List.setIfInBounds_toArray, List.set_cons_zero, List.set_cons_succ]
    refine tk 5 55 (v := ?_) hH (by kernel_rfl) rfl rfl (fun _ _ _ h => h) (.inl ⟨by rfl, ?_⟩) ?_; rotate_left; (intro w' hw; obtain ⟨⟨_, _, _, _, _, _⟩, _, _⟩ := hw); (go_simp; try with_reducible rfl); simp only [Act.put, List.setIfInBounds_toArray, List.set_cons_zero, List.set_cons_succ]
    refine tk 6 56 (v := ?_) hH (by kernel_rfl) rfl rfl (fun _ _ _ h => h) (.inl ⟨by rfl, ?_⟩) ?_; rotate_left; (intro w' hw; obtain ⟨⟨_, _, _, _, _, _⟩, _, _⟩ := hw); (go_simp; try with_reducible rfl); simp only [Act.put, List.setIfInBounds_toArray, List.set_cons_zero, List.set_cons_succ]
    refine tc 3 53 (by kernel_rfl) rfl rfl (by rfl) Tryz.func81 (by kernel_rfl) rfl ((T1.out _).mono ?_) (by simp only [List.map_toArray, List.map_cons, List.map_nil]; rfl)
    rintro e w1 ⟨rfl, hb1⟩
    refine ⟨_, rfl, P4.below hH hb1, fun hH => ?_⟩
    simp only [Act.put, List.setIfInBounds_toArray, List.set_cons_zero, List.set_cons_succ]
    refine tc 7 57 (by kernel_rfl) rfl rfl (by rfl) Tryz.func81 (by kernel_rfl) rfl ((T2.out _).mono ?_) (by simp only [List.map_toArray, List.map_cons, List.map_nil]; rfl)
    rintro e w2 ⟨rfl, hb2⟩
    refine ⟨_, rfl, P4.below hH hb2, fun hH => ?_⟩
    simp only [Act.put, List.setIfInBounds_toArray, List.set_cons_zero, List.set_cons_succ]
    refine tk 8 58 (v := ?_) hH (by kernel_rfl) rfl rfl (fun _ _ _ h => h) (.inl ⟨by rfl, ?_⟩) ?_; rotate_left; (intro w' hw; obtain ⟨⟨_, _, _, _, _, _⟩, _, _⟩ := hw); (go_simp; try with_reducible rfl); simp only [Act.put, List.setIfInBounds_toArray, List.set_cons_zero, List.set_cons_succ]
    refine tk 9 59 (v := ?_) hH (by kernel_rfl) rfl rfl (fun _ _ _ h => h) (.inl ⟨by rfl, ?_⟩) ?_; rotate_left; (intro w' hw; obtain ⟨⟨_, _, _, _, _, _⟩, _, _⟩ := hw); (go_simp; try with_reducible rfl); simp only [Act.put, List.setIfInBounds_toArray, List.set_cons_zero, List.set_cons_succ]
    refine tk 10 60 (v := ?_) hH (by kernel_rfl) rfl rfl (fun _ _ _ h => h) (.inl ⟨by rfl, ?_⟩) ?_; rotate_left; (intro w' hw; obtain ⟨⟨_, _, _, _, _, _⟩, _, _⟩ := hw); (go_simp; try with_reducible rfl); simp only [Act.put, List.setIfInBounds_toArray, List.set_cons_zero, List.set_cons_succ]
    refine tk 11 61 (v := ?_) hH (by kernel_rfl) rfl rfl (fun _ _ _ h => h) (.inl ⟨by rfl, ?_⟩) ?_; rotate_left; (intro w' hw; obtain ⟨⟨_, _, _, _, _, _⟩, _, _⟩ := hw); (go_simp; try with_reducible rfl); simp only [Act.put, List.setIfInBounds_toArray, List.set_cons_zero, List.set_cons_succ]
    refine tk 12 62 (v := ?_) hH (by kernel_rfl) rfl rfl (fun _ _ _ h => h) (.inl ⟨by rfl, ?_⟩) ?_; rotate_left; (intro w' hw; obtain ⟨⟨_, _, _, _, _, _⟩, _, _⟩ := hw); (go_simp; try with_reducible rfl); simp only [Act.put, List.setIfInBounds_toArray, List.set_cons_zero, List.set_cons_succ]
    refine tk 13 63 (v := ?_) hH (by kernel_rfl) rfl rfl (fun _ _ _ h => h) (.inl ⟨by rfl, ?_⟩) ?_; rotate_left; (intro w' hw; obtain ⟨⟨_, _, _, _, _, _⟩, _, _⟩ := hw); (go_simp; try with_reducible rfl); simp only [Act.put, List.setIfInBounds_toArray, List.set_cons_zero, List.set_cons_succ]
    refine tk 15 65 (v := ?_) hH (by kernel_rfl) rfl rfl (fun _ _ _ h => h) (.inl ⟨by rfl, ?_⟩) ?_; rotate_left; (intro w' hw; obtain ⟨⟨_, _, _, _, _, _⟩, _, _⟩ := hw); (go_simp; try with_reducible rfl); simp only [Act.put, List.setIfInBounds_toArray, List.set_cons_zero, List.set_cons_succ]
    refine tk 16 66 (v := ?_) hH (by kernel_rfl) rfl rfl (fun _ _ _ h => h) (.inl ⟨by rfl, ?_⟩) ?_; rotate_left; (intro w' hw; obtain ⟨⟨_, _, _, _, _, _⟩, _, _⟩ := hw); (go_simp; try with_reducible rfl); simp only [Act.put, List.setIfInBounds_toArray, List.set_cons_zero, List.set_cons_succ]
    refine tk 17 67 (v := ?_) hH (by kernel_rfl) rfl rfl (fun _ _ _ h => h) (.inl ⟨by rfl, ?_⟩) ?_; rotate_left; (intro w' hw; obtain ⟨⟨_, _, _, _, _, _⟩, _, _⟩ := hw); (go_simp; try with_reducible rfl); simp only [Act.put, List.setIfInBounds_toArray, List.set_cons_zero, List.set_cons_succ]
    refine tc 14 64 (by kernel_rfl) rfl rfl (by rfl) Tryz.func81 (by kernel_rfl) rfl ((T3.out _).mono ?_) (by simp only [List.map_toArray, List.map_cons, List.map_nil]; rfl)
    rintro e w3 ⟨rfl, hb3⟩
    refine ⟨_, rfl, P4.below hH hb3, fun hH => ?_⟩
    simp only [Act.put, List.setIfInBounds_toArray, List.set_cons_zero, List.set_cons_succ]
    refine tc 18 68 (by kernel_rfl) rfl rfl (by rfl) Tryz.func81 (by kernel_rfl) rfl ((T4.out _).mono ?_) (by simp only [List.map_toArray, List.map_cons, List.map_nil]; rfl)
    rintro e w4 ⟨rfl, hb4⟩
    refine ⟨_, rfl, P4.below hH hb4, fun hH => ?_⟩
    simp only [Act.put, List.setIfInBounds_toArray, List.set_cons_zero, List.set_cons_succ]
    refine tk 19 69 (v := ?_) hH (by kernel_rfl) rfl rfl (fun _ _ _ h => h) (.inl ⟨by rfl, ?_⟩) ?_; rotate_left; (intro w' hw; obtain ⟨⟨_, _, _, _, _, _⟩, _, _⟩ := hw); (go_simp; try with_reducible rfl); simp only [Act.put, List.setIfInBounds_toArray, List.set_cons_zero, List.set_cons_succ]
    refine tk 20 70 (v := ?_) hH (by kernel_rfl) rfl rfl (fun _ _ _ h => h) (.inl ⟨by rfl, ?_⟩) ?_; rotate_left; (intro w' hw; obtain ⟨⟨_, _, _, _, _, _⟩, _, _⟩ := hw); (go_simp; try with_reducible rfl); simp only [Act.put, List.setIfInBounds_toArray, List.set_cons_zero, List.set_cons_succ]
    refine tk 21 71 (v := ?_) hH (by kernel_rfl) rfl rfl (fun _ _ _ h => h) (.inl ⟨by rfl, ?_⟩) ?_; rotate_left; (intro w' hw; obtain ⟨⟨_, _, _, _, _, _⟩, _, _⟩ := hw); (go_simp; try with_reducible rfl); simp only [Act.put, List.setIfInBounds_toArray, List.set_cons_zero, List.set_cons_succ]
    refine tk 22 8 (v := ?_) hH (by kernel_rfl) rfl rfl (fun _ _ _ h => h) (.inl ⟨by rfl, ?_⟩) ?_; rotate_left; (intro w' hw; obtain ⟨⟨_, _, _, _, _, _⟩, _, _⟩ := hw); (go_simp; try with_reducible rfl); simp only [Act.put, List.setIfInBounds_toArray, List.set_cons_zero, List.set_cons_succ]
    refine tk 23 9 (v := ?_) hH (by kernel_rfl) rfl rfl (fun _ _ _ h => h) (.inl ⟨by rfl, ?_⟩) ?_; rotate_left; (intro w' hw; obtain ⟨⟨_, _, _, _, _, _⟩, _, _⟩ := hw); (go_simp; try with_reducible rfl); simp only [Act.put, List.setIfInBounds_toArray, List.set_cons_zero, List.set_cons_succ]
    refine wpAnyH_done (by kernel_rfl) ?_ _
    go_wp2
    go_ret2
    exact ⟨by simp [hg], below_step (below_step (below_step (below_step HB hb1) hb2) hb3) hb4⟩
  · have hg' : decide (t1 * t2 < 0) = false := decide_eq_false hg
    refine wp_region_held_drew (S := P4 w.heap.size ax ay bx byy cx cy dx dy) (by kernel_rfl) (hP.below (below_drew (Below.refl _ _))) (fun hH => ?_)
    replace HB := below_step HB (below_drew (Below.refl _ _))
    clear hP
    generalize World.drew _ = wB at *
    refine tk 0 50 (v := ?_) hH (by kernel_rfl) rfl rfl (fun _ _ _ h => h) (.inl ⟨by rfl, ?_⟩) ?_; rotate_left; (intro w' hw; obtain ⟨⟨_, _, _, _, _, _⟩, _, _⟩ := hw); (go_simp; try with_reducible rfl); simp only [Act.put, List.setIfInBounds_toArray, List.set_cons_zero, List.set_cons_succ]
    refine tk 1 51 (v := ?_) hH (by kernel_rfl) rfl rfl (fun _ _ _ h => h) (.inl ⟨by rfl, ?_⟩) ?_; rotate_left; (intro w' hw; obtain ⟨⟨_, _, _, _, _, _⟩, _, _⟩ := hw); (go_simp; try with_reducible rfl); simp only [Act.put, List.setIfInBounds_toArray, List.set_cons_zero, List.set_cons_succ]
    refine tk 2 52 (v := ?_) hH (by kernel_rfl) rfl rfl (fun _ _ _ h => h) (.inl ⟨by rfl, ?_⟩) ?_; rotate_left; (intro w' hw; obtain ⟨⟨_, _, _, _, _, _⟩, _, _⟩ := hw); (go_simp; try with_reducible rfl); simp only [Act.put, List.setIfInBounds_toArray, List.set_cons_zero, List.set_cons_succ]
    refine tk 4 54 (v := ?_) hH (by kernel_rfl) rfl rfl (fun _ _ _ h => h) (.inl ⟨by rfl, ?_⟩) ?_; rotate_left; (intro w' hw; obtain ⟨⟨_, _, _, _, _, _⟩, _, _⟩ := hw); (go_simp; try with_reducible rfl); simp only [Act.put, List.setIfInBounds_toArray, List.set_cons_zero, List.set_cons_succ]
    refine tk 5 55 (v := ?_) hH (by kernel_rfl) rfl rfl (fun _ _ _ h => h) (.inl ⟨by rfl, ?_⟩) ?_; rotate_left; (intro w' hw; obtain ⟨⟨_, _, _, _, _, _⟩, _, _⟩ := hw); (go_simp; try with_reducible rfl); simp only [Act.put, List.setIfInBounds_toArray, List.set_cons_zero, List.set_cons_succ]
    refine tk 6 56 (v := ?_) hH (by kernel_rfl) rfl rfl (fun _ _ _ h => h) (.inl ⟨by rfl, ?_⟩) ?_; rotate_left; (intro w' hw; obtain ⟨⟨_, _, _, _, _, _⟩, _, _⟩ := hw); (go_simp; try with_reducible rfl); simp only [Act.put, List.setIfInBounds_toArray, List.set_cons_zero, List.set_cons_succ]
    refine tc 3 53 (by kernel_rfl) rfl rfl (by rfl) Tryz.func81 (by kernel_rfl) rfl ((T1.out _).mono ?_) (by simp only [List.map_toArray, List.map_cons, List.map_nil]; rfl)
    rintro e w1 ⟨rfl, hb1⟩
    refine ⟨_, rfl, P4.below hH hb1, fun hH => ?_⟩
    simp only [Act.put, List.setIfInBounds_toArray, List.set_cons_zero, List.set_cons_succ]
    refine tc 7 57 (by kernel_rfl) rfl rfl (by rfl) Tryz.func81 (by kernel_rfl) rfl ((T2.out _).mono ?_) (by simp only [List.map_toArray, List.map_cons, List.map_nil]; rfl)
    rintro e w2 ⟨rfl, hb2⟩
    refine ⟨_, rfl, P4.below hH hb2, fun hH => ?_⟩
    simp only [Act.put, List.setIfInBounds_toArray, List.set_cons_zero, List.set_cons_succ]
    refine tk 8 58 (v := ?_) hH (by kernel_rfl) rfl rfl (fun _ _ _ h => h) (.inl ⟨by rfl, ?_⟩) ?_; rotate_left; (intro w' hw; obtain ⟨⟨_, _, _, _, _, _⟩, _, _⟩ := hw); (go_simp; try with_reducible rfl); simp only [Act.put, List.setIfInBounds_toArray, List.set_cons_zero, List.set_cons_succ]
    refine tk 9 59 (v := ?_) hH (by kernel_rfl) rfl rfl (fun _ _ _ h => h) (.inl ⟨by rfl, ?_⟩) ?_; rotate_left; (intro w' hw; obtain ⟨⟨_, _, _, _, _, _⟩, _, _⟩ := hw); (go_simp; try with_reducible rfl); simp only [Act.put, List.setIfInBounds_toArray, List.set_cons_zero, List.set_cons_succ]
    refine tk 10 60 (v := ?_) hH (by kernel_rfl) rfl rfl (fun _ _ _ h => h) (.inl ⟨by rfl, ?_⟩) ?_; rotate_left; (intro w' hw; obtain ⟨⟨_, _, _, _, _, _⟩, _, _⟩ := hw); (go_simp; try with_reducible rfl); simp only [Act.put, List.setIfInBounds_toArray, List.set_cons_zero, List.set_cons_succ]
    refine tk 11 61 hH (by kernel_rfl) rfl rfl (fun _ _ _ h => h) (.inr ⟨by rfl, rfl⟩) ?_; simp only [Act.put, List.setIfInBounds_toArray, List.set_cons_zero, List.set_cons_succ]
    refine tk 12 62 hH (by kernel_rfl) rfl rfl (fun _ _ _ h => h) (.inr ⟨by rfl, rfl⟩) ?_; simp only [Act.put, List.setIfInBounds_toArray, List.set_cons_zero, List.set_cons_succ]
    refine tk 13 63 hH (by kernel_rfl) rfl rfl (fun _ _ _ h => h) (.inr ⟨by rfl, rfl⟩) ?_; simp only [Act.put, List.setIfInBounds_toArray, List.set_cons_zero, List.set_cons_succ]
    refine tk 15 65 hH (by kernel_rfl) rfl rfl (fun _ _ _ h => h) (.inr ⟨by rfl, rfl⟩) ?_; simp only [Act.put, List.setIfInBounds_toArray, List.set_cons_zero, List.set_cons_succ]
    refine tk 16 66 hH (by kernel_rfl) rfl rfl (fun _ _ _ h => h) (.inr ⟨by rfl, rfl⟩) ?_; simp only [Act.put, List.setIfInBounds_toArray, List.set_cons_zero, List.set_cons_succ]
    refine tk 17 67 hH (by kernel_rfl) rfl rfl (fun _ _ _ h => h) (.inr ⟨by rfl, rfl⟩) ?_; simp only [Act.put, List.setIfInBounds_toArray, List.set_cons_zero, List.set_cons_succ]
    refine tk 14 64 hH (by kernel_rfl) rfl rfl (fun _ _ _ h => h) (.inr ⟨by rfl, rfl⟩) ?_; simp only [Act.put, List.setIfInBounds_toArray, List.set_cons_zero, List.set_cons_succ]
    refine tk 18 68 hH (by kernel_rfl) rfl rfl (fun _ _ _ h => h) (.inr ⟨by rfl, rfl⟩) ?_; simp only [Act.put, List.setIfInBounds_toArray, List.set_cons_zero, List.set_cons_succ]
    refine tk 19 69 hH (by kernel_rfl) rfl rfl (fun _ _ _ h => h) (.inr ⟨by rfl, rfl⟩) ?_; simp only [Act.put, List.setIfInBounds_toArray, List.set_cons_zero, List.set_cons_succ]
    refine tk 20 70 hH (by kernel_rfl) rfl rfl (fun _ _ _ h => h) (.inr ⟨by rfl, rfl⟩) ?_; simp only [Act.put, List.setIfInBounds_toArray, List.set_cons_zero, List.set_cons_succ]
    refine tk 21 71 (v := ?_) hH (by kernel_rfl) rfl rfl (fun _ _ _ h => h) (.inl ⟨by rfl, ?_⟩) ?_; rotate_left; (intro w' hw; obtain ⟨⟨_, _, _, _, _, _⟩, _, _⟩ := hw); (go_simp; try with_reducible rfl); simp only [Act.put, List.setIfInBounds_toArray, List.set_cons_zero, List.set_cons_succ]
    refine tk 22 8 (v := ?_) hH (by kernel_rfl) rfl rfl (fun _ _ _ h => h) (.inl ⟨by rfl, ?_⟩) ?_; rotate_left; (intro w' hw; obtain ⟨⟨_, _, _, _, _, _⟩, _, _⟩ := hw); (go_simp; try with_reducible rfl); simp only [Act.put, List.setIfInBounds_toArray, List.set_cons_zero, List.set_cons_succ]
    refine tk 23 9 (v := ?_) hH (by kernel_rfl) rfl rfl (fun _ _ _ h => h) (.inl ⟨by rfl, ?_⟩) ?_; rotate_left; (intro w' hw; obtain ⟨⟨_, _, _, _, _, _⟩, _, _⟩ := hw); (go_simp; try with_reducible rfl); simp only [Act.put, List.setIfInBounds_toArray, List.set_cons_zero, List.set_cons_succ]
    refine wpAnyH_done (by kernel_rfl) ?_ _
    go_wp2
    go_ret2
    exact ⟨by simp [hg], below_step (below_step HB hb1) hb2⟩
set_option maxHeartbeats 4000000 in
set_option maxRecDepth 100000 in
theorem conCross_calls (A : Option Addr) (c : Nat) (l : List Int) (x0 y0 x1 y1 x2 y2 x3 y3 : Int) (r : Bool) (e2 : Int) (w : World) (hr : Kd.C (Kd.int .i64) w A l.length l) (hc : l.length ≤ c)
    (hp0 : console_point.f l 0 = some (x0, y0)) (hp1 : console_point.f l 1 = some (x1, y1)) (hp2 : console_point.f l 2 = some (x2, y2)) (hp3 : console_point.f l 3 = some (x3, y3))
    (hh : ∀ w, Calls Tryz.prog 65 #[.agg #[.int .i64 x0, .int .i64 y0], .agg #[.int .i64 x1, .int .i64 y1], .agg #[.int .i64 x2, .int .i64 y2], .agg #[.int .i64 x3, .int .i64 y3]] w fun e w' => e = .returned (.tuple #[.bool r, .int .i64 e2]) ∧ Below w.heap.size w w') :
    Calls Tryz.prog 48 #[.slice A l.length c] w fun e w' => e = .returned (.tuple #[.string (if r = true then ⟨#[121, 101, 115]⟩ else ⟨#[110, 111]⟩), .int .i64 e2]) ∧ Below w.heap.size w w' := by
  have H := Aside0.mk hh
  clear hh
  have HB := Aside0.mk (Below.refl w.heap.size w)
  have P0 := Aside0.mk (fun W (h : Below w.heap.size w W) => console_point.calls A c l 0 x0 y0 W (Kd.C_below hr h) hc hp0)
  have P1 := Aside0.mk (fun W (h : Below w.heap.size w W) => console_point.calls A c l 1 x1 y1 W (Kd.C_below hr h) hc hp1)
  have P2 := Aside0.mk (fun W (h : Below w.heap.size w W) => console_point.calls A c l 2 x2 y2 W (Kd.C_below hr h) hc hp2)
  have P3' := Aside0.mk (fun W (h : Below w.heap.size w W) => console_point.calls A c l 3 x3 y3 W (Kd.C_below hr h) hc hp3)
  clear hp0 hp1 hp2 hp3 hr
  cases r
  all_goals
    go_enter Tryz.func48, Tryz.ntmps48
    go_wp2_with (first
      | (go_at_call 64; (first | (with_reducible refine (P0.out _ HB.out).mono ?_) | (with_reducible refine (P1.out _ HB.out).mono ?_) | (with_reducible refine (P2.out _ HB.out).mono ?_) | (with_reducible refine (P3'.out _ HB.out).mono ?_)); rintro e w' ⟨rfl, hb⟩; replace HB := Aside0.mk (below_step HB.out hb); clear hb)
      | (go_at_call 65; (with_reducible refine (H.out _).mono ?_); rintro e w' ⟨rfl, hb⟩; replace HB := Aside0.mk (below_step HB.out hb); clear hb))
    go_ret2
    exact ⟨rfl, HB.out⟩
end Go.Proofs.YtibakeahgcakmaaGreatDoor
