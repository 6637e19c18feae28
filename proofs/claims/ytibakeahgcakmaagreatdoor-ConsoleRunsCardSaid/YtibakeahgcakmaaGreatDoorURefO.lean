/- What the law's turns answers: the walk. -/
import Derived.Test.YtibakeahgcakmaaGreatDoorURefX
import Derived.Test.YtibakeahgcakmaaGreatDoorUDec
import Derived.Test.YtibakeahgcakmaaGreatDoorUBox
set_option linter.unusedVariables false
set_option linter.unusedSimpArgs false
namespace Go.Proofs.YtibakeahgcakmaaGreatDoor
open Go.Shelf Go.RowKit Go.Proofs.YtibakeahgcakmaaGreatDoorW.PrintWords Go.Proofs.YtibakeahgcakmaaGreatDoorW.PrintLast Go.Proofs.YtibakeahgcakmaaGreatDoorW.PrintMore PF Curve

/-- What an answer and its error tell. -/
def tellR (p : ByteArray × Int) : ByteArray := if p.2 = 0 then p.1 else failedB p.2
theorem reffailed_calls (n : Int) (h0 : 0 ≤ n) (h1 : n < 1000000) (w : World) : Calls Tryz.prog 35 #[.int .i64 n] w fun e w' => e = .returned (.string (failedB n)) ∧ Below w.heap.size w w' := by
  have hd : furlongref0_Decimal.f 40 n = some (itoaB n) := by
    obtain ⟨m, rfl⟩ := Int.eq_ofNat_of_zero_le h0
    exact Decimal_eq m (by omega)
  have H := Aside0.mk hd
  have hs := itoaB_size n (by omega) (by omega)
  unfold failedB
  generalize itoaB n = D at *
  clear hd
  go_enter Tryz.func35, Tryz.ntmps35
  go_wp2_with (go_at_call 14; (with_reducible refine (furlongref0_Decimal.calls 40 _ D _ H.out).mono ?_); rintro e w1 ⟨rfl, hb⟩)
  go_ret
  exact ⟨rfl, hb⟩
theorem keep6 {g o : Nat} {x0 x1 x2 x3 x4 x5 : Int} {w w' : World} (lg : g < w.heap.size)
    (k0 : w.cell? ⟨g, o, none⟩ = some (.int .i64 x0)) (k1 : w.cell? ⟨g, o + 1, none⟩ = some (.int .i64 x1)) (k2 : w.cell? ⟨g, o + 2, none⟩ = some (.int .i64 x2))
    (k3 : w.cell? ⟨g, o + 3, none⟩ = some (.int .i64 x3)) (k4 : w.cell? ⟨g, o + 4, none⟩ = some (.int .i64 x4)) (k5 : w.cell? ⟨g, o + 5, none⟩ = some (.int .i64 x5)) (h : Below w.heap.size w w') :
    w'.cell? ⟨g, o, none⟩ = some (.int .i64 x0) ∧ w'.cell? ⟨g, o + 1, none⟩ = some (.int .i64 x1) ∧ w'.cell? ⟨g, o + 2, none⟩ = some (.int .i64 x2) ∧ w'.cell? ⟨g, o + 3, none⟩ = some (.int .i64 x3) ∧ w'.cell? ⟨g, o + 4, none⟩ = some (.int .i64 x4) ∧ w'.cell? ⟨g, o + 5, none⟩ = some (.int .i64 x5) ∧ Aside0 (Below w.heap.size w w') :=
  ⟨(h.cell lg).trans k0, (h.cell lg).trans k1, (h.cell lg).trans k2, (h.cell lg).trans k3, (h.cell lg).trans k4, (h.cell lg).trans k5, ⟨h⟩⟩
def ptA (g : Nat) (x y : Int) (w : World) : Prop := w.cell? ⟨g, 0, none⟩ = some (.int .i64 x) ∧ w.cell? ⟨g, 1, none⟩ = some (.int .i64 y)
theorem ptA.below {g : Nat} {x y : Int} {w w' : World} (h : ptA g x y w) (hb : Below w.heap.size w w') : ptA g x y w' := ⟨pw_cell_below hb h.1, pw_cell_below hb h.2⟩
theorem three_in (w : World) (a b c d e f : Int) : ptA w.heap.size a b ((((w.alloc (pt a b)).alloc (pt c d)).alloc (pt e f)).drew) ∧ ptA (w.heap.size + 1) c d ((((w.alloc (pt a b)).alloc (pt c d)).alloc (pt e f)).drew) ∧ ptA (w.heap.size + 1 + 1) e f ((((w.alloc (pt a b)).alloc (pt c d)).alloc (pt e f)).drew) ∧ Below w.heap.size w ((((w.alloc (pt a b)).alloc (pt c d)).alloc (pt e f)).drew) := by
  obtain ⟨h, hb⟩ := P3.mk w a b c d e f
  obtain ⟨h0, h1, h2, h3, h4, h5⟩ := h.below (below_drew (Below.refl _ _))
  exact ⟨⟨h0, h1⟩, ⟨h2, h3⟩, ⟨h4, h5⟩, below_step hb (below_drew (Below.refl _ _))⟩
def turnT (x0 x1 x2 x3 x4 x5 : Int) : ByteArray := if okP x0 x1 ∧ okP x2 x3 ∧ okP x4 x5 then turnB (turnZ x0 x1 x2 x3 x4 x5) else failedB 300
def crossT (x0 x1 x2 x3 x4 x5 x6 x7 : Int) : ByteArray := if okP x0 x1 ∧ okP x2 x3 ∧ okP x4 x5 ∧ okP x6 x7 then (if crossZ x0 x1 x2 x3 x4 x5 x6 x7 then yesB else noB) else failedB 300
set_option maxHeartbeats 40000000 in
set_option maxRecDepth 100000 in
theorem refturns_calls (ad : Addr) (c n : Nat) (wd r : ByteArray) (x0 x1 x2 x3 x4 x5 : Int) (w : World) (hn : 6 ≤ n)
    (k0 : w.cell? ⟨ad.block, ad.off, none⟩ = some (.int .i64 x0)) (k1 : w.cell? ⟨ad.block, ad.off + 1, none⟩ = some (.int .i64 x1)) (k2 : w.cell? ⟨ad.block, ad.off + 2, none⟩ = some (.int .i64 x2))
    (k3 : w.cell? ⟨ad.block, ad.off + 3, none⟩ = some (.int .i64 x3)) (k4 : w.cell? ⟨ad.block, ad.off + 4, none⟩ = some (.int .i64 x4)) (k5 : w.cell? ⟨ad.block, ad.off + 5, none⟩ = some (.int .i64 x5)) (had : ad.spot = none)
    (hcase : (wd = turnW ∧ r = turnT x0 x1 x2 x3 x4 x5) ∨ (wd = crossW ∧ 8 ≤ n ∧ ∃ x6 x7, w.cell? ⟨ad.block, ad.off + 6, none⟩ = some (.int .i64 x6) ∧ w.cell? ⟨ad.block, ad.off + 7, none⟩ = some (.int .i64 x7) ∧ r = crossT x0 x1 x2 x3 x4 x5 x6 x7)) :
    Calls Tryz.prog 23 #[.string wd, .slice (some ad) n c] w fun e w' => e = .returned (.string r) ∧ Below w.heap.size w w' := by
  have n0 : 0 < n := by omega
  have n1 : (1 : Int) < (n : Int) := by omega
  have n2 : (2 : Int) < (n : Int) := by omega
  have n3 : (3 : Int) < (n : Int) := by omega
  have n4 : (4 : Int) < (n : Int) := by omega
  have n5 : (5 : Int) < (n : Int) := by omega
  clear hn
  obtain ⟨g, o, sp⟩ := ad
  simp only at k0 k1 k2 k3 k4 k5 had hcase
  subst had
  have HCASE := Aside0.mk hcase
  clear hcase
  have lg := World.block_lt_of_cell? w _ k0
  go_enter Tryz.func23, Tryz.ntmps23
  go_upto_region 1 with (fail)
  go_cut [5, 6, 7] (fun v5 v6 v7 wc => ∃ g5 g6 g7 : Nat, v5 = .pointer (some ⟨g5, 0, none⟩) ∧ v6 = .pointer (some ⟨g6, 0, none⟩) ∧ v7 = .pointer (some ⟨g7, 0, none⟩) ∧ Aside0 (ptA g5 x0 x1 wc) ∧ Aside0 (ptA g6 x2 x3 wc) ∧ Aside0 (ptA g7 x4 x5 wc) ∧ Aside0 (Below w.heap.size w wc))
  case first =>
    go_region_held3 (fun w' => w'.cell? ⟨g, o, none⟩ = some (.int .i64 x0) ∧ w'.cell? ⟨g, o + 1, none⟩ = some (.int .i64 x1) ∧ w'.cell? ⟨g, o + 2, none⟩ = some (.int .i64 x2) ∧ w'.cell? ⟨g, o + 3, none⟩ = some (.int .i64 x3) ∧ w'.cell? ⟨g, o + 4, none⟩ = some (.int .i64 x4) ∧ w'.cell? ⟨g, o + 5, none⟩ = some (.int .i64 x5) ∧ Aside0 (Below w.heap.size w w'))
      ((refine keep6 lg k0 k1 k2 k3 k4 k5 ?_; go_split_ands; repeat (first | exact Aside0.out (by assumption) | exact Below.refl _ _ | apply below_alloc | apply below_drew | (refine Below.setCell ?_ (by first | exact Nat.le_refl _ | exact Nat.le_add_right _ _ | (simp; done) | (simp; omega)) _)))) (fail)
    all_goals
      go_wp2
      go_meet
      case rel => refine ⟨_, _, _, rfl, rfl, rfl, ⟨?_⟩, ⟨?_⟩, ⟨?_⟩, ⟨?_⟩⟩ <;> first | exact (three_in _ _ _ _ _ _ _).1 | exact (three_in _ _ _ _ _ _ _).2.1 | exact (three_in _ _ _ _ _ _ _).2.2.1 | exact (three_in _ _ _ _ _ _ _).2.2.2
  case rest =>
    obtain ⟨g5, g6, g7, rfl, rfl, rfl, H5, H6, H7, HB⟩ := hcut
    obtain ⟨h50, h51⟩ := H5.out
    obtain ⟨h60, h61⟩ := H6.out
    obtain ⟨h70, h71⟩ := H7.out
    rcases HCASE.out with ⟨rfl, hr⟩ | ⟨rfl, h8, x6, x7, k6, k7, hr⟩
    · clear HCASE H5 H6 H7 k0 k1 k2 k3 k4 k5
      unfold turnT at hr
      by_cases hok : okP x0 x1 ∧ okP x2 x3 ∧ okP x4 x5
      · rw [if_pos hok] at hr
        have C := Aside0.mk (refTurn_calls x0 x1 x2 x3 x4 x5 (turnZ x0 x1 x2 x3 x4 x5) 0 (if_pos hok))
        have hz : turnZ x0 x1 x2 x3 x4 x5 = -1 ∨ turnZ x0 x1 x2 x3 x4 x5 = 0 ∨ turnZ x0 x1 x2 x3 x4 x5 = 1 := sg_cases _
        generalize turnZ x0 x1 x2 x3 x4 x5 = z at *
        clear hok
        rcases hz with rfl | rfl | rfl
        all_goals
          go_wp2_with (go_at_call 34; (with_reducible refine (C.out _).mono ?_); rintro e w1 ⟨rfl, hb⟩; replace HB := Aside0.mk (below_step HB.out hb); clear hb)
          go_ret
          exact ⟨by rw [hr]; rfl, below_alloc HB.out _⟩
      · rw [if_neg hok] at hr
        have C := Aside0.mk (refTurn_calls x0 x1 x2 x3 x4 x5 0 300 (if_neg hok))
        clear hok
        go_wp2_with (first
          | (go_at_call 34; (with_reducible refine (C.out _).mono ?_); rintro e w1 ⟨rfl, hb⟩; replace HB := Aside0.mk (below_step HB.out hb); clear hb)
          | (go_at_call 35; (with_reducible refine (reffailed_calls 300 (by omega) (by omega) _).mono ?_); rintro e w2 ⟨rfl, hb⟩; replace HB := Aside0.mk (below_step HB.out hb); clear hb))
        go_ret
        exact ⟨by rw [hr]; rfl, HB.out⟩
    · have n6 : (6 : Int) < (n : Int) := by omega
      have n7 : (7 : Int) < (n : Int) := by omega
      clear HCASE h8 k0 k1 k2 k3 k4 k5
      replace k6 := (Below.cell HB.out (p := ⟨g, o + 6, none⟩) lg).trans k6
      replace k7 := (Below.cell HB.out (p := ⟨g, o + 7, none⟩) lg).trans k7
      unfold crossT at hr
      go_upto_region 7 with (fail)
      obtain ⟨C0, e0, hC, hfin⟩ : ∃ (b : Bool) (e : Int), (∀ w, Calls Tryz.prog 36 #[.agg #[.int .i64 x0, .int .i64 x1], .agg #[.int .i64 x2, .int .i64 x3], .agg #[.int .i64 x4, .int .i64 x5], .agg #[.int .i64 x6, .int .i64 x7]] w fun e' w' => e' = .returned (.tuple #[.bool b, .int .i64 e]) ∧ Below w.heap.size w w') ∧
          (e = 0 ∧ b = true ∧ r = yesB ∨ e = 0 ∧ b = false ∧ r = noB ∨ e = 300 ∧ b = false ∧ r = failedB 300) := by
        by_cases hok : okP x0 x1 ∧ okP x2 x3 ∧ okP x4 x5 ∧ okP x6 x7
        · rw [if_pos hok] at hr
          refine ⟨_, 0, refCross_calls x0 x1 x2 x3 x4 x5 x6 x7 _ 0 (if_pos hok), ?_⟩
          by_cases hz : crossZ x0 x1 x2 x3 x4 x5 x6 x7
          · rw [if_pos hz] at hr; exact .inl ⟨rfl, decide_eq_true hz, hr⟩
          · rw [if_neg hz] at hr; exact .inr (.inl ⟨rfl, decide_eq_false hz, hr⟩)
        · rw [if_neg hok] at hr
          exact ⟨false, 300, refCross_calls x0 x1 x2 x3 x4 x5 x6 x7 _ 300 (if_neg hok), .inr (.inr ⟨rfl, rfl, hr⟩)⟩
      have C := Aside0.mk hC
      clear hr hC H5 H6 H7
      have HBA := HB
      generalize hwa : wc = wA at *
      clear hwa
      go_region_held3 (fun w' => w'.cell? ⟨g, o + 6, none⟩ = some (.int .i64 x6) ∧ w'.cell? ⟨g, o + 7, none⟩ = some (.int .i64 x7) ∧ w'.cell? ⟨g5, 0, none⟩ = some (.int .i64 x0) ∧ w'.cell? ⟨g5, 1, none⟩ = some (.int .i64 x1) ∧ w'.cell? ⟨g6, 0, none⟩ = some (.int .i64 x2) ∧ w'.cell? ⟨g6, 1, none⟩ = some (.int .i64 x3) ∧ w'.cell? ⟨g7, 0, none⟩ = some (.int .i64 x4) ∧ w'.cell? ⟨g7, 1, none⟩ = some (.int .i64 x5) ∧ Aside0 (Below wA.heap.size wA w'))
        (first | (go_split_ands; refine ⟨?_, ?_, ?_, ?_, ?_, ?_, ?_, ?_, ?_⟩ <;> first | assumption | exact pw_cell_below ‹_› ‹_› | exact ⟨below_step (Aside0.out ‹_›) ‹_›⟩ | exact ⟨below_drew (Below.refl _ _)⟩))
        (first
          | (go_at_call 36; go_split_ands; (with_reducible refine (C.out _).mono ?_); rintro e w' ⟨rfl, hb⟩))
      go_split_ands
      rename_i hz5
      have HB5 := Aside0.mk (below_step HBA.out hz5.out)
      rcases hfin with ⟨rfl, rfl, hr⟩ | ⟨rfl, rfl, hr⟩ | ⟨rfl, rfl, hr⟩
      · go_wp2
        go_ret
        exact ⟨by rw [hr]; rfl, HB5.out⟩
      · go_wp2
        go_ret
        exact ⟨by rw [hr]; rfl, HB5.out⟩
      · go_wp2_with (go_at_call 35; (with_reducible refine (reffailed_calls 300 (by omega) (by omega) _).mono ?_); rintro e w2 ⟨rfl, hb⟩; replace HB5 := Aside0.mk (below_step HB5.out hb); clear hb)
        go_ret
        exact ⟨by rw [hr]; rfl, HB5.out⟩
end Go.Proofs.YtibakeahgcakmaaGreatDoor
/- The reference's cover, on lists: the cells met, in a row, give the console's stretches. -/
set_option linter.unusedVariables false
set_option linter.unusedSimpArgs false
namespace Go.Proofs.YtibakeahgcakmaaGreatDoor
open Go.Shelf Go.RowKit Go.Proofs.YtibakeahgcakmaaGreatDoorW.PrintWords Go.Proofs.YtibakeahgcakmaaGreatDoorW.PrintLast Go.Proofs.YtibakeahgcakmaaGreatDoorW.PrintMore PF Curve

/-- The cells of S below i, in a row. -/
def metI (S : List Int) (i : Nat) : List Int := ((List.range i).filter fun (j : Nat) => S.contains ((j : Nat) : Int)).map fun (j : Nat) => ((j : Nat) : Int)
theorem metI_succ (S : List Int) (i : Nat) : metI S (i + 1) = if S.contains (i : Int) = true then metI S i ++ [(i : Int)] else metI S i := by
  unfold metI
  rw [List.range_succ, List.filter_append, List.map_append]
  by_cases h : S.contains (i : Int) = true
  · rw [if_pos h, List.filter_cons_of_pos (p := fun (j : Nat) => S.contains ((j : Nat) : Int)) h]; rfl
  · rw [if_neg h, List.filter_cons_of_neg (p := fun (j : Nat) => S.contains ((j : Nat) : Int)) h]; simp
def metL (S : List Int) (i : Nat) : List PG.S86 := foldC (metI S i)
theorem foldC_last (ds : List Int) (d : Int) : 0 < (foldC (ds ++ [d])).length ∧ (PG.rd_T86 (foldC (ds ++ [d])) (((foldC (ds ++ [d])).length : Int) - 1)).f1 = (d + 1) * 1048576 := by
  rw [foldC_snoc]
  unfold addL
  have e : ∀ (l : List PG.S86) (n : Nat), PG.rd_T86 l (((n : Nat) : Int) - 1) = l.getD (n - 1) PG.z86 := fun l n => by unfold PG.rd_T86; rw [show (((n : Nat) : Int) - 1).toNat = n - 1 by omega]
  split
  · rename_i h
    rw [List.length_set, e]
    refine ⟨h.1, ?_⟩
    rw [List.getD_eq_getElem?_getD, List.getElem?_set_self (by omega)]; rfl
  · rw [List.length_append, List.length_singleton, e]
    refine ⟨by omega, ?_⟩
    rw [List.getD_eq_getElem?_getD, show (foldC ds).length + 1 - 1 = (foldC ds).length by omega, List.getElem?_append_right (Nat.le_refl _), Nat.sub_self]; rfl
theorem metI_lt (S : List Int) (i : Nat) : ∀ d ∈ metI S i, 0 ≤ d ∧ d < i ∧ S.contains d = true := by
  intro d hd
  unfold metI at hd
  obtain ⟨j, hj, rfl⟩ := List.mem_map.1 hd
  obtain ⟨h1, h2⟩ := List.mem_filter.1 hj
  have := List.mem_range.1 h1
  exact ⟨by omega, by omega, h2⟩
theorem metL_no (S : List Int) (i : Nat) (h : S.contains (i : Int) = false) : metL S (i + 1) = metL S i := by
  unfold metL; rw [metI_succ, if_neg (by rw [h]; decide)]
/-- A cell whose elder is met: the last stretch grows. -/
theorem metL_grow (S : List Int) (i : Nat) (h : S.contains ((i + 1 : Nat) : Int) = true) (h' : S.contains (i : Int) = true) :
    0 < (metL S (i + 1)).length ∧ metL S (i + 1 + 1) = (metL S (i + 1)).set ((metL S (i + 1)).length - 1) ⟨(PG.rd_T86 (metL S (i + 1)) (((metL S (i + 1)).length : Int) - 1)).f0, ((i + 1 + 1 : Nat) : Int) * 1048576⟩ := by
  have hl := foldC_last (metI S i) (i : Int)
  have e1 : metI S (i + 1) = metI S i ++ [(i : Int)] := by rw [metI_succ, if_pos h']
  unfold metL
  rw [metI_succ S (i + 1), if_pos h, foldC_snoc, e1]
  generalize foldC (metI S i ++ [(i : Int)]) = l at hl ⊢
  refine ⟨hl.1, ?_⟩
  unfold addL
  rw [if_pos ⟨hl.1, by rw [hl.2]; omega⟩, show (((i + 1 : Nat) : Int) + 1) * 1048576 = ((i + 1 + 1 : Nat) : Int) * 1048576 by omega]
/-- A cell whose elder is not: a new stretch. -/
theorem metL_new (S : List Int) (i : Nat) (h : S.contains (i : Int) = true) (h' : ∀ j : Nat, i = j + 1 → S.contains (j : Int) = false) :
    metL S (i + 1) = metL S i ++ [⟨(i : Int) * 1048576, ((i + 1 : Nat) : Int) * 1048576⟩] := by
  unfold metL
  rw [metI_succ, if_pos h, foldC_snoc]
  have hlt := metI_lt S i
  have hcases : metI S i = [] ∨ ∃ ds d, metI S i = ds ++ [d] := by
    rcases List.eq_nil_or_concat (metI S i) with e | ⟨ds, d, e⟩
    · exact .inl e
    · exact .inr ⟨ds, d, by rw [e, List.concat_eq_append]⟩
  have hno : ¬ (0 < (foldC (metI S i)).length ∧ (PG.rd_T86 (foldC (metI S i)) (((foldC (metI S i)).length : Int) - 1)).f1 = (i : Int) * 1048576) := by
    rcases hcases with e | ⟨ds, d, e⟩
    · rw [e]; intro hh; simp [foldC] at hh
    · rw [e] at hlt ⊢
      intro hh
      have hl := foldC_last ds d
      rw [hl.2] at hh
      have hd := hlt d (by simp)
      obtain ⟨n, rfl⟩ := Int.eq_ofNat_of_zero_le hd.1
      have := h' n (by omega)
      rw [this] at hd; exact absurd hd.2.2 (by decide)
  unfold addL
  rw [if_neg hno, show ((i : Int) + 1) * 1048576 = ((i + 1 : Nat) : Int) * 1048576 by omega]
theorem metL_len (S : List Int) (i : Nat) : (metL S i).length ≤ i := by
  have h1 := foldC_length (metI S i)
  have h2 : (metI S i).length ≤ i := by
    unfold metI; rw [List.length_map]
    exact Nat.le_trans (List.length_filter_le _ _) (Nat.le_of_eq List.length_range)
  exact Nat.le_trans h1 h2
theorem sorted_one : ∀ l1 l2 : List Int, l1.Pairwise (· < ·) → l2.Pairwise (· < ·) → (∀ x, x ∈ l1 ↔ x ∈ l2) → l1 = l2
  | [], [], _, _, _ => rfl
  | [], b :: t, _, _, h => absurd ((h b).2 (List.mem_cons_self ..)) (by simp)
  | a :: t, [], _, _, h => absurd ((h a).1 (List.mem_cons_self ..)) (by simp)
  | a :: s, b :: t, h1, h2, h => by
    obtain ⟨p1, p2⟩ := List.pairwise_cons.1 h1
    obtain ⟨q1, q2⟩ := List.pairwise_cons.1 h2
    have e : a = b := by
      rcases List.mem_cons.1 ((h a).1 (List.mem_cons_self ..)) with e | e
      · exact e
      · rcases List.mem_cons.1 ((h b).2 (List.mem_cons_self ..)) with e' | e'
        · exact e'.symm
        · have := p1 b e'; have := q1 a e; omega
    subst e
    congr 1
    refine sorted_one s t p2 q2 fun x => ⟨fun hx => ?_, fun hx => ?_⟩
    · rcases List.mem_cons.1 ((h x).1 (List.mem_cons_of_mem _ hx)) with e | e
      · have := p1 x hx; omega
      · exact e
    · rcases List.mem_cons.1 ((h x).2 (List.mem_cons_of_mem _ hx)) with e | e
      · have := q1 x hx; omega
      · exact e
theorem gridC_nodup (x0 y0 h n : Nat) (hx : x0 + n ≤ 64) (hy : y0 + h ≤ 64) : (gridC x0 y0 h n).Nodup := by
  have inj : ∀ i j i' j' : Nat, i < n → j < h → i' < n → j' < h → hil 6 (x0 + i) (y0 + j) = hil 6 (x0 + i') (y0 + j') → i = i' ∧ j = j' := by
    intro i j i' j' a b c d e
    have h1 := deh_hil 6 (x0 + i) (y0 + j) (by show _ < 64; omega) (by show _ < 64; omega)
    rw [e, deh_hil 6 (x0 + i') (y0 + j') (by show _ < 64; omega) (by show _ < 64; omega)] at h1
    have := Prod.mk.inj h1
    omega
  unfold gridC rowC
  unfold List.Nodup
  rw [List.pairwise_flatMap]
  refine ⟨fun i hi => ?_, ?_⟩
  · rw [List.pairwise_map]
    refine List.Pairwise.imp_of_mem ?_ List.nodup_range
    intro a b ha hb hne e
    have := inj i a i b (List.mem_range.1 hi) (List.mem_range.1 ha) (List.mem_range.1 hi) (List.mem_range.1 hb) (Int.ofNat.inj e)
    exact hne this.2
  · refine List.Pairwise.imp_of_mem ?_ List.nodup_range
    intro a b ha hb hne x hx y hy e
    obtain ⟨j, hj, rfl⟩ := List.mem_map.1 hx
    obtain ⟨j', hj', rfl⟩ := List.mem_map.1 hy
    have := inj a j b j' (List.mem_range.1 ha) (List.mem_range.1 hj) (List.mem_range.1 hb) (List.mem_range.1 hj') (Int.ofNat.inj e)
    exact hne this.1
theorem metL_all (x0 y0 h n : Nat) (hx : x0 + n ≤ 64) (hy : y0 + h ≤ 64) : metL (gridC x0 y0 h n) 4096 = foldC (srt (gridC x0 y0 h n)) := by
  refine congrArg foldC ?_
  obtain ⟨M, hM⟩ : ∃ M : Nat, M = 4096 := ⟨_, rfl⟩
  rw [← hM]
  have hr := gridC_range x0 y0 h n hx hy
  have hn := gridC_nodup x0 y0 h n hx hy
  generalize gridC x0 y0 h n = S at hr hn ⊢
  refine sorted_one _ _ ?_ ?_ fun x => ⟨fun hx => ?_, fun hx => ?_⟩
  · unfold metI
    rw [List.pairwise_map]
    refine List.Pairwise.imp (R := fun a b : Nat => a < b) (fun {a b} (hab : a < b) => by omega) ?_
    exact List.Pairwise.filter _ List.pairwise_lt_range
  · have hp := List.mergeSort_perm S (fun x y => decide (x ≤ y))
    have hs : (srt S).Pairwise (fun a b => decide (a ≤ b) = true) := List.pairwise_mergeSort (by intro a b c; simp only [decide_eq_true_eq]; omega) (by intro a b; simp only [Bool.or_eq_true, decide_eq_true_eq]; omega) S
    have hd : (srt S).Nodup := hp.nodup_iff.2 hn
    refine List.Pairwise.imp ?_ (hs.and hd)
    intro a b hab
    have h1 := of_decide_eq_true hab.1
    have h2 : a ≠ b := hab.2
    omega
  · have := metI_lt S M x hx
    exact List.mem_mergeSort.2 (by simpa using this.2.2)
  · have hm := List.mem_mergeSort.1 hx
    have := hr x hm
    obtain ⟨m, rfl⟩ := Int.eq_ofNat_of_zero_le this.1
    unfold metI
    refine List.mem_map.2 ⟨m, List.mem_filter.2 ⟨List.mem_range.2 (by omega), by simpa using hm⟩, rfl⟩
end Go.Proofs.YtibakeahgcakmaaGreatDoor
