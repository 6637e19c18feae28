/- The reference's cover: the walk. -/
import Derived.Test.YtibakeahgcakmaaGreatDoorURefO
import Derived.Test.YtibakeahgcakmaaGreatDoorURefX
import Derived.Deep.Upon
set_option linter.unusedVariables false
set_option linter.unusedSimpArgs false
namespace Go.Proofs.YtibakeahgcakmaaGreatDoor
open Go.Shelf Go.RowKit Go.Proofs.YtibakeahgcakmaaGreatDoorW.PrintWords Go.Proofs.YtibakeahgcakmaaGreatDoorW.PrintLast Go.Proofs.YtibakeahgcakmaaGreatDoorW.PrintMore PF Curve

/-- The array of cells met: true just at S's. -/
def MetAt (g : Nat) (S : List Int) (w : World) : Prop := ∃ cs : Array Value, w.heap[g]? = some (.cells cs 101 (0, 0)) ∧ cs.size = 4096 ∧ ∀ i : Nat, i < 4096 → cs[i]? = some (.bool (S.contains (i : Int)))
theorem MetAt.cell {g : Nat} {S : List Int} {w : World} (h : MetAt g S w) (i : Nat) (hi : i < 4096) : w.cell? ⟨g, i, none⟩ = some (.bool (S.contains (i : Int))) := by
  obtain ⟨cs, h1, h2, h3⟩ := h
  rw [Lib.cell_of_heap h1]; exact h3 i hi
theorem MetAt.frozen {g : Nat} {S : List Int} {w : World} (h : MetAt g S w) (i : Nat) : w.frozen? ⟨g, i, none⟩ = false := by
  obtain ⟨cs, h1, h2, h3⟩ := h
  exact Lib.frozen_of_heap h1 i
theorem MetAt.below {g : Nat} {S : List Int} {w w' : World} (h : MetAt g S w) (hb : Below w.heap.size w w') : MetAt g S w' := by
  obtain ⟨cs, h1, h2⟩ := h
  exact ⟨cs, heap_below h1 hb, h2⟩
theorem MetAt.lt {g : Nat} {S : List Int} {w : World} (h : MetAt g S w) : g < w.heap.size := by
  obtain ⟨cs, h1, h2⟩ := h
  exact (Array.getElem?_eq_some_iff.1 h1).1
theorem MetAt.put {g : Nat} {S : List Int} {w : World} (h : MetAt g S w) (d : Nat) : MetAt g (S ++ [(d : Int)]) (w.setCell ⟨g, d, none⟩ (.bool true)) := by
  obtain ⟨cs, h1, h2, h3⟩ := h
  refine ⟨cs.setIfInBounds d (.bool true), heap_setCell_same w g d cs 101 _ h1, by rw [Array.size_setIfInBounds]; exact h2, fun i hi => ?_⟩
  by_cases e : d = i
  · subst e
    rw [Array.getElem?_setIfInBounds_self_of_lt (by omega)]
    simp
  · rw [Array.getElem?_setIfInBounds_ne e, h3 i hi]
    congr 2
    rw [Bool.eq_iff_iff]
    simp only [List.contains_iff_mem, List.mem_append, List.mem_singleton]
    constructor
    · exact .inl
    · rintro (h | h)
      · exact h
      · omega
theorem met_zero : Tryz.zeroCells101 = Array.replicate 4096 (.bool false) := by kernel_rfl
theorem met_new (w : World) : MetAt w.heap.size [] (w.alloc (.cells Tryz.zeroCells101 101)) := by
  refine ⟨_, heap_alloc_new w _, by rw [met_zero]; exact Array.size_replicate, fun i hi => ?_⟩
  rw [met_zero, Array.getElem?_replicate, if_pos hi]; rfl
theorem refOf_bad (a b c d : Int) (hb : ¬ boxOk a b c d) (w : World) :
    Calls Tryz.prog 38 #[.agg #[.int .i64 a, .int .i64 b, .int .i64 c, .int .i64 d]] w fun e w' => e = .returned (.tuple #[.slice none 0 0, .int .i64 600]) ∧ Below w.heap.size w w' := by
  have H := Aside0.mk (refbox_calls a b c d)
  rw [decide_eq_false (by unfold boxOk okP at *; omega)] at H
  clear hb
  go_enter Tryz.func38, Tryz.ntmps38
  go_wp2_with (go_at_call 55; (with_reducible refine (H.out _).mono ?_); rintro e w1 ⟨rfl, hb1⟩)
  go_ret2
  exact ⟨rfl, below_step (below_alloc (Below.refl _ w) _) hb1⟩
set_option maxHeartbeats 4000000 in
set_option maxRecDepth 100000 in
theorem refOf_good (a b c d A B C D : Nat) (w : World) (ha : a ≤ c) (hb : b ≤ d) (hc : c ≤ 4294967295) (hd : d ≤ 4294967295)
    (hA : a / 67108864 = A) (hB : b / 67108864 = B) (hC : c / 67108864 = C) (hD : d / 67108864 = D) :
    Calls Tryz.prog 38 #[.agg #[.int .i64 a, .int .i64 b, .int .i64 c, .int .i64 d]] w (CoverPost w (foldC (srt (gridC A B (D + 1 - B) (C + 1 - A))))) := by
  have HX := Aside0.mk (refbox_calls a b c d)
  rw [decide_eq_true (by unfold okP; omega)] at HX
  have hA' : Int.tdiv (a : Int) 67108864 = (A : Int) := by rw [show (67108864 : Int) = ((67108864 : Nat) : Int) from rfl, tdiv_nat]; omega
  have hB' : Int.tdiv (b : Int) 67108864 = (B : Int) := by rw [show (67108864 : Int) = ((67108864 : Nat) : Int) from rfl, tdiv_nat]; omega
  have hC' : Int.tdiv (c : Int) 67108864 = (C : Int) := by rw [show (67108864 : Int) = ((67108864 : Nat) : Int) from rfl, tdiv_nat]; omega
  have hD' : Int.tdiv (d : Int) 67108864 = (D : Int) := by rw [show (67108864 : Int) = ((67108864 : Nat) : Int) from rfl, tdiv_nat]; omega
  have hAC : A ≤ C := by omega
  have hBD : B ≤ D := by omega
  have hC63 : C ≤ 63 := by omega
  have hD63 : D ≤ 63 := by omega
  obtain ⟨H, hH⟩ : ∃ H : Nat, B + H = D + 1 := ⟨D + 1 - B, by omega⟩
  rw [show D + 1 - B = H by omega]
  have hall := metL_all A B H (C + 1 - A) (by omega) (by omega)
  rw [← hall]
  clear hall hA hB hC hD
  have HH := Lib.hid hH
  clear hH
  obtain ⟨G, hG⟩ : ∃ G, metL (gridC A B H (C + 1 - A)) 4096 = G := ⟨_, rfl⟩
  rw [hG]
  have HG := Aside0.mk hG
  clear hG
  go_enter Tryz.func38, Tryz.ntmps38
  go_upto_region 5 with (go_at_call 55; (with_reducible refine (HX.out _).mono ?_); rintro e w1 ⟨rfl, hb1⟩; have BX := heap_below (heap_alloc_new w _) hb1; have HB := below_step (below_alloc (Below.refl _ w) _) hb1; have HL := (Array.getElem?_eq_some_iff.1 BX).1; clear hb1)
  have hM := met_new w1
  have hbA := below_alloc (Below.refl w1.heap.size w1) (.cells Tryz.zeroCells101 101)
  replace BX := heap_below BX hbA
  replace HB := below_step HB hbA
  clear hbA HX
  generalize w1.alloc (.cells Tryz.zeroCells101 101) = w2 at *
  generalize w1.heap.size = g at *
  have c0 := Lib.cell_of_heap BX 0
  have c1 := Lib.cell_of_heap BX 1
  have c2 := Lib.cell_of_heap BX 2
  have c3 := Lib.cell_of_heap BX 3
  have HM := Aside0.mk hM
  have HBX := Aside0.mk BX
  clear hM BX
  go_wp2
  clear c0 c1 c2 c3
  go_loopw [6] (fun s6 wr => ∃ n X : Nat, Aside0 (X = A + n) ∧ X ≤ C + 1 ∧ s6 = .int .i64 (X : Int) ∧ Aside0 (MetAt g (gridC A B H n) wr) ∧ Aside0 (wr.heap[w.heap.size]? = some (.cells #[.int .i64 (a : Int), .int .i64 (b : Int), .int .i64 (c : Int), .int .i64 (d : Int)] 84)) ∧ Aside0 (Below w.heap.size w wr)) (fun s6 _ => C + 1 - (intOf s6).toNat)
  case atStart => exact ⟨0, A, ⟨rfl⟩, by omega, rfl, HM, HBX, ⟨HB⟩⟩
  case round =>
    obtain ⟨n, X, HX, hn, rfl, hR, hBX, hW⟩ := hrel
    clear HM HBX HB
    have c1' := Lib.cell_of_heap hBX.out 1
    have c2' := Lib.cell_of_heap hBX.out 2
    by_cases hlt : X ≤ C
    · go_wp2
      go_loopw [7] (fun s7 wz => ∃ m Y : Nat, Aside0 (Y = B + m) ∧ Y ≤ D + 1 ∧ s7 = .int .i64 (Y : Int) ∧ Aside0 (MetAt g (gridC A B H n ++ rowC X B m) wz) ∧ Aside0 (wz.heap[w.heap.size]? = some (.cells #[.int .i64 (a : Int), .int .i64 (b : Int), .int .i64 (c : Int), .int .i64 (d : Int)] 84)) ∧ Aside0 (Below w.heap.size w wz)) (fun s7 _ => D + 1 - (intOf s7).toNat)
      case atStart => exact ⟨0, B, ⟨rfl⟩, by omega, rfl, ⟨by simpa [rowC] using hR.out⟩, hBX, hW⟩
      case round =>
        obtain ⟨m, Y, HY, hm, rfl, hR2, hBX2, hW2⟩ := hrel
        clear hR hW hBX c1' c2'
        have c3' := Lib.cell_of_heap hBX2.out 3
        by_cases hlt2 : Y ≤ D
        · have HCell := Aside0.mk (refCell_eq 6 20 X Y (by omega) (by omega) (by show _ < 64; omega) (by show _ < 64; omega) (by omega))
          have hdl := hil_lt 6 X Y (by show _ < 64; omega) (by show _ < 64; omega)
          obtain ⟨dd, hdd⟩ : ∃ dd, hil 6 X Y = dd := ⟨_, rfl⟩
          have HDD := Aside0.mk hdd
          rw [hdd] at hdl HCell
          clear hdd
          have hd1 : (dd : Int) < 4096 := by have e : (4 : Nat) ^ 6 = 4096 := by decide
                                             omega
          have hd2 : (0 : Int) ≤ (dd : Int) := by omega
          clear hdl
          go_wp2_with (go_at_call 26; (with_reducible refine (furlongref1_Cell.calls 20 _ _ 6 _ 0 _ HCell.out).mono ?_); rintro e w3 ⟨rfl, hdr⟩; have hM3 := hR2.out.below hdr.below; have hcd := hM3.cell dd (by omega); have hfd := hM3.frozen dd; have hBX3 := heap_below hBX2.out hdr.below; have hW3 := below_step hW2.out hdr.below; clear hdr)
          have hM4 : Aside0 (MetAt g (gridC A B H n ++ rowC X B (m + 1)) (w3.setCell ⟨g, dd, none⟩ (.bool true))) := ⟨by rw [rowC_succ, ← List.append_assoc, ← HY.out, HDD.out]; exact hM3.put dd⟩
          refine ⟨⟨m + 1, Y + 1, ⟨by have := HY.out; omega⟩, by omega, by go_num, hM4, ⟨by rw [heap_setCell_other _ _ _ _ (by show w.heap.size ≠ g; omega)]; exact hBX3⟩, ⟨hW3.setCell (Nat.le_of_lt HL) _⟩⟩, ?_⟩
          simp [intOf]; omega
        · obtain rfl : m = H := by have := HH.out; have := HY.out; omega
          have hR6 : Aside0 (MetAt g (gridC A B m (n + 1)) wr) := ⟨by rw [gridC_succ, ← HX.out]; exact hR2.out⟩
          go_wp2
          refine ⟨⟨n + 1, X + 1, ⟨by have := HX.out; omega⟩, by omega, by go_num, hR6, hBX2, hW2⟩, ?_⟩
          simp [intOf]; omega
    · obtain ⟨N, hN⟩ : ∃ N, N = C + 1 - A := ⟨_, rfl⟩
      obtain rfl : n = N := by have := HX.out; omega
      have HG' := HG.out
      rw [← hN] at HG'
      have HG2 := Aside0.mk HG'
      clear hN HG HG'
      generalize gridC A B H n = S at *
      have HM := hR
      clear hR hA' hB' hD' HH hBX
      go_wp2
      clear c1' c2' hC'
      generalize wr = w5 at *
      have hgl := HM.out.lt
      go_loopw [10, 12] (fun s10 s12 wz => ∃ i : Nat, i ≤ 4096 ∧ s12 = .int .i64 (i : Int) ∧ Aside0 (Kd.R PG.k86 86 wz w5.heap.size (fun _ => True) s10 (metL S i)) ∧ Aside0 (Below w5.heap.size w5 wz)) (fun _ s12 _ => 4096 - (intOf s12).toNat)
      case atStart => exact ⟨0, by omega, rfl, ⟨Kd.R_nil _ _ _ _ _⟩, ⟨Below.refl _ _⟩⟩
      case round =>
        obtain ⟨i, hi, rfl, hR, hZ⟩ := hrel
        obtain ⟨As, cs, rfl⟩ := Kd.R_slice hR.out
        have HMz : Aside0 (MetAt g S wr) := ⟨HM.out.below hZ.out⟩
        by_cases hlt : i < 4096
        · have hi1 : (i : Int) < 4096 := by omega
          have hi0 : (0 : Int) ≤ (i : Int) := by omega
          have hc := HMz.out.cell i hlt
          cases hin : S.contains (i : Int) with
          | false =>
            rw [hin] at hc
            have hR' : Aside0 (Kd.R PG.k86 86 wr w5.heap.size (fun _ => True) (.slice As (metL S i).length cs) (metL S (i + 1))) := ⟨by rw [metL_no S i hin]; exact hR.out⟩
            clear hin
            go_wp2
            refine ⟨⟨i + 1, by omega, by go_num, hR', hZ⟩, ?_⟩
            simp [intOf]; omega
          | true =>
            rw [hin] at hc
            have hcase : (i = 0) ∨ (∃ j : Nat, i = j + 1 ∧ S.contains (j : Int) = false) ∨ (∃ j : Nat, i = j + 1 ∧ S.contains (j : Int) = true) := by
              by_cases h0 : i = 0
              · exact .inl h0
              · obtain ⟨j, rfl⟩ : ∃ j, i = j + 1 := ⟨i - 1, by omega⟩
                cases hj : S.contains (j : Int) with
                | false => exact .inr (.inl ⟨j, rfl, hj⟩)
                | true => exact .inr (.inr ⟨j, rfl, hj⟩)
            rcases hcase with h0 | ⟨j, hj, hjn⟩ | ⟨j, hj, hjn⟩
            · have hgt : decide (0 < i) = false := decide_eq_false (by omega)
              have hnew := metL_new S i hin (fun j h => by omega)
              rw [show ((i + 1 : Nat) : Int) = (i : Int) + 1 from rfl] at hnew
              have HN := Aside0.mk hnew
              clear h0 hin hnew
              go_wp2_with (at_builtin; refine Kd.R_append PG.k86 (w0 := w5) w5.heap.size rfl (.tmp 74) (.tmp 83) 80 86 (.agg #[.int .i64 0, .int .i64 0]) 16 rfl Tryz.underlying80 PG.info86 rfl (by decide) (by omega) _ (metL S (i)) ⟨((i : Int)) * 1048576, (((i : Int)) + 1) * 1048576⟩ [.int .i64 (((i : Int)) * 1048576), .int .i64 ((((i : Int)) + 1) * 1048576)] (fun _ => True) (fun _ => False) rfl rfl (PG.k86_mkM _ _ _ _) (fun _ hk => hk.elim) (fun _ _ => trivial) hR.out hZ.out hZ.out.size (by have := metL_len S (i); omega) ?_; intro v6 w6 hr6 hb6 hg6 hat6)
              refine ⟨⟨i + 1, by omega, by go_num, ⟨by rw [HN.out]; exact hr6⟩, ⟨hb6⟩⟩, ?_⟩
              simp [intOf]; omega
            · have hgt : decide (0 < i) = true := decide_eq_true (by omega)
              have hb1 : (1 : Int) ≤ (i : Int) := by omega
              have hb2 : (i : Int) - 1 < 4096 := by omega
              have hcj := HMz.out.cell j (by omega)
              rw [hjn] at hcj
              have hij : i - 1 = j := by omega
              have hnew := metL_new S i hin (fun j' h => by obtain rfl : j' = j := by omega
                                                            exact hjn)
              rw [show ((i + 1 : Nat) : Int) = (i : Int) + 1 from rfl] at hnew
              have HN := Aside0.mk hnew
              rw [← hij] at hcj
              clear hij hj hin hjn hnew
              go_wp2_with (at_builtin; refine Kd.R_append PG.k86 (w0 := w5) w5.heap.size rfl (.tmp 74) (.tmp 83) 80 86 (.agg #[.int .i64 0, .int .i64 0]) 16 rfl Tryz.underlying80 PG.info86 rfl (by decide) (by omega) _ (metL S (i)) ⟨((i : Int)) * 1048576, (((i : Int)) + 1) * 1048576⟩ [.int .i64 (((i : Int)) * 1048576), .int .i64 ((((i : Int)) + 1) * 1048576)] (fun _ => True) (fun _ => False) rfl rfl (PG.k86_mkM _ _ _ _) (fun _ hk => hk.elim) (fun _ _ => trivial) hR.out hZ.out hZ.out.size (by have := metL_len S (i); omega) ?_; intro v6 w6 hr6 hb6 hg6 hat6)
              refine ⟨⟨i + 1, by omega, by go_num, ⟨by rw [HN.out]; exact hr6⟩, ⟨hb6⟩⟩, ?_⟩
              simp [intOf]; omega
            · have hgt : decide (0 < i) = true := decide_eq_true (by omega)
              have hb1 : (1 : Int) ≤ (i : Int) := by omega
              have hb2 : (i : Int) - 1 < 4096 := by omega
              have hcj := HMz.out.cell j (by omega)
              rw [hjn] at hcj
              have hij : i - 1 = j := by omega
              rw [← hij] at hcj
              subst hj
              obtain ⟨hpos, hgrow⟩ := metL_grow S j hin hjn
              have HN := Aside0.mk hgrow
              clear hij hin hjn hgrow
              generalize j + 1 = i at *
              have HLN := Aside0.mk (metL_len S i)
              generalize hLL : metL S i = L at *
              obtain ⟨n0, hn0⟩ : ∃ n0, L.length = n0 + 1 := ⟨L.length - 1, by omega⟩
              obtain ⟨go, co, hsl, hgb, hgl', hgc⟩ := Kd.R_form hR.out hpos
              cases hsl
              have hR2 := hR.out
              rw [hn0] at hR2
              obtain ⟨ce, hcl, hM2, hcc, hfr⟩ := Kd.R_elem hR2 PG.z86 (n0 : Int) (by omega) (by omega)
              obtain rfl := PG.k86_openM hM2
              have hn1 : (n0 : Int) < 5000 := by have := HLN.out; omega
              have hx1 : wr.cell? ⟨go, n0 * 2 + 1, none⟩ = some (.int .i64 (L.getD n0 PG.z86).f1) := hcc 1 _ rfl
              have hx1' : wr.frozen? ⟨go, n0 * 2 + 1, none⟩ = false := hfr 1
              have hset : Aside0 (Kd.R PG.k86 86 (wr.setCell ⟨go, n0 * 2 + 1, none⟩ (.int .i64 (((i : Int) + 1) * 1048576))) w5.heap.size (fun _ => True) (.slice (some ⟨go, 0, none⟩) (n0 + 1) cs) (metL S (i + 1))) := ⟨by
                have hs := (Kd.R_seg hR2 (n0 : Int) (by omega) (by omega) (seg := [.int .i64 (((i : Int) + 1) * 1048576)]) (j := 1) hcl hcc (Nat.le_refl 2) (x' := ⟨(L.getD n0 PG.z86).f0, ((i : Int) + 1) * 1048576⟩) (PG.k86_mkM _ _ (fun _ => False) _) (fun _ h => h.elim)).1
                have e : metL S (i + 1) = L.set n0 ⟨(L.getD n0 PG.z86).f0, ((i : Int) + 1) * 1048576⟩ := by
                  rw [HN.out, hn0, show n0 + 1 - 1 = n0 by omega]
                  congr 2
                  unfold PG.rd_T86
                  rw [show (((n0 + 1 : Nat) : Int) - 1).toNat = n0 by omega]
                rw [e]; exact hs⟩
              rw [hn0]
              clear hcc hfr hM2 hcl hR2 hn0 HN hLL hpos
              go_wp2
              refine ⟨⟨i + 1, by omega, by go_num, hset, ⟨hZ.out.setCell hgb _⟩⟩, ?_⟩
              simp [intOf]; omega
        · obtain rfl : i = 4096 := by omega
          have hfin := hR.out
          rw [HG2.out] at hfin ⊢
          obtain ⟨A9, c9, hsl⟩ := Kd.R_slice hfin
          cases hsl
          have hwp : Below w.heap.size w wr := pw_below_then' hW.out hZ.out hW.out.size
          have hfin2 := Aside0.mk (Kd.R_lower hfin hW.out.size)
          clear hfin
          go_wp2
          go_ret2
          exact ⟨_, rfl, hfin2.out, hwp⟩
end Go.Proofs.YtibakeahgcakmaaGreatDoor
