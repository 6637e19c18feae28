/- A box's stretches: the walk of cover.Of over the curve's cell, the sort and the joining of stretches. -/
import Derived.Test.YtibakeahgcakmaaGreatDoorUTell3
import Derived.Test.YtibakeahgcakmaaGreatDoorUCurveF
import Derived.Test.YtibakeahgcakmaaGreatDoorUPGx8
import Derived.Test.YtibakeahgcakmaaGreatDoorUPFx3
import Derived.Test.YtibakeahgcakmaaGreatDoorUGeomF
import Derived.Deep.RegionHeld3
set_option linter.unusedVariables false
namespace Go.Proofs.YtibakeahgcakmaaGreatDoor
open Go.Shelf Go.RowKit Go.Proofs.YtibakeahgcakmaaGreatDoorW.PrintWords Go.Proofs.YtibakeahgcakmaaGreatDoorW.PrintLast Go.Proofs.YtibakeahgcakmaaGreatDoorW.PrintMore PF Curve

theorem BoxMay_eq (a b c d : Int) : geom_BoxMay.f a b c d = some (decide (0 ≤ a ∧ a ≤ 4294967295 ∧ 0 ≤ b ∧ b ≤ 4294967295 ∧ 0 ≤ c ∧ c ≤ 4294967295 ∧ 0 ≤ d ∧ d ≤ 4294967295 ∧ a ≤ c ∧ b ≤ d)) := by
  have co : ∀ x : Int, geom_coord.f x = some (decide (0 ≤ x ∧ x ≤ 4294967295)) := by
    intro x; unfold geom_coord.f
    by_cases h : x ≥ 0
    · rw [if_pos h]; simp [show 0 ≤ x from h]
    · rw [if_neg h]; simp; omega
  unfold geom_BoxMay.f
  simp only [co, Option.bind_some, decide_eq_true_eq]
  repeat' split
  all_goals simp only [Option.some.injEq]
  all_goals first | rfl | (simp only [decide_eq_decide]; omega) | (symm; simp only [decide_eq_false_iff_not]; omega)

/-- Row x's cells, the first m. -/
def rowC (x y0 m : Nat) : List Int := (List.range m).map fun j => ((hil 6 x (y0 + j) : Nat) : Int)
/-- The cells of the first n rows, h each. -/
def gridC (x0 y0 h n : Nat) : List Int := (List.range n).flatMap fun i => rowC (x0 + i) y0 h
theorem rowC_succ (x y0 m : Nat) : rowC x y0 (m + 1) = rowC x y0 m ++ [((hil 6 x (y0 + m) : Nat) : Int)] := by
  unfold rowC; rw [List.range_succ, List.map_append]; rfl
theorem gridC_succ (x0 y0 h n : Nat) : gridC x0 y0 h (n + 1) = gridC x0 y0 h n ++ rowC (x0 + n) y0 h := by
  unfold gridC; rw [List.range_succ, List.flatMap_append]; simp
theorem rowC_length (x y0 m : Nat) : (rowC x y0 m).length = m := by simp [rowC]
theorem gridC_length (x0 y0 h n : Nat) : (gridC x0 y0 h n).length = n * h := by
  induction n with
  | zero => simp [gridC]
  | succ n ih => rw [gridC_succ, List.length_append, ih, rowC_length, Nat.succ_mul]

set_option maxHeartbeats 2000000 in
set_option maxRecDepth 100000 in
theorem Of_bad (a b c d : Int) (w : World) (hb : ¬ (0 ≤ a ∧ a ≤ 4294967295 ∧ 0 ≤ b ∧ b ≤ 4294967295 ∧ 0 ≤ c ∧ c ≤ 4294967295 ∧ 0 ≤ d ∧ d ≤ 4294967295 ∧ a ≤ c ∧ b ≤ d)) :
    Calls Tryz.prog 68 #[.agg #[.int .i64 a, .int .i64 b, .int .i64 c, .int .i64 d]] w fun e w' => e = .returned (.tuple #[.slice none 0 0, .int .i64 600]) ∧ Below w.heap.size w w' := by
  have hf := BoxMay_eq a b c d
  rw [decide_eq_false hb] at hf
  clear hb
  go_enter Tryz.func68, Tryz.ntmps68
  go_wp2_with (go_at_call 85; (with_reducible refine (geom_BoxMay.calls a b c d false _ hf).mono ?_); rintro e w1 ⟨rfl, hb1⟩)
  go_ret2
  exact ⟨rfl, below_step (below_alloc (Below.refl _ w) _) hb1⟩

/-- A stretch behind, onto the last one if there is no gap. -/
def addL (l : List PG.S86) (a b : Int) : List PG.S86 :=
  if 0 < l.length ∧ (PG.rd_T86 l ((l.length : Int) - 1)).f1 = a then l.set (l.length - 1) ⟨(PG.rd_T86 l ((l.length : Int) - 1)).f0, b⟩ else l ++ [⟨a, b⟩]
theorem add_eq (l : List PG.S86) (a b : Int) (hl : l.length ≤ 1000000) : PG.cover_add.f l a b = some (addL l a b) := by
  unfold PG.cover_add.f addL
  by_cases h : 0 < l.length
  · rw [if_pos (by omega), w64 ((l.length : Int) - 1) (by omega) (by omega), if_pos (by omega), if_pos (by omega)]
    by_cases h2 : (PG.rd_T86 l ((l.length : Int) - 1)).f1 = a
    · rw [if_pos h2, if_pos ⟨h, h2⟩, show ((l.length : Int) - 1).toNat = l.length - 1 by omega]
    · rw [if_neg h2, if_pos (by omega), if_neg (fun hh => h2 hh.2)]
  · rw [if_neg (by omega), if_pos (by omega), if_neg (fun hh => h hh.1)]
theorem addL_length (l : List PG.S86) (a b : Int) : (addL l a b).length ≤ l.length + 1 := by
  unfold addL; split <;> simp
def foldC (ds : List Int) : List PG.S86 := ds.foldl (fun acc d => addL acc (d * 1048576) ((d + 1) * 1048576)) []
theorem foldC_snoc (ds : List Int) (d : Int) : foldC (ds ++ [d]) = addL (foldC ds) (d * 1048576) ((d + 1) * 1048576) := by
  unfold foldC; rw [List.foldl_append]; rfl
theorem foldC_len (ds : List Int) : ∀ acc : List PG.S86, (ds.foldl (fun acc d => addL acc (d * 1048576) ((d + 1) * 1048576)) acc).length ≤ acc.length + ds.length := by
  induction ds with
  | nil => intro acc; simp
  | cons d ds ih =>
    intro acc
    have h1 := ih (addL acc (d * 1048576) ((d + 1) * 1048576))
    have h2 := addL_length acc (d * 1048576) ((d + 1) * 1048576)
    rw [List.foldl_cons, List.length_cons]; omega
theorem foldC_length (ds : List Int) : (foldC ds).length ≤ ds.length := by
  have := foldC_len ds []
  simpa [foldC] using this
theorem gridC_range (x0 y0 h n : Nat) (hx : x0 + n ≤ 64) (hy : y0 + h ≤ 64) : ∀ d ∈ gridC x0 y0 h n, 0 ≤ d ∧ d ≤ 4095 := by
  intro d hd
  unfold gridC rowC at hd
  simp only [List.mem_flatMap, List.mem_map, List.mem_range] at hd
  obtain ⟨i, hi, j, hj, rfl⟩ := hd
  have := hil_lt 6 (x0 + i) (y0 + j) (by show _ < 64; omega) (by show _ < 64; omega)
  have e : (4 : Nat) ^ 6 = 4096 := by decide
  omega
theorem pw_below_then' {B : Nat} {w w1 w2 : World} (h : Below B w w1) (k : Below w1.heap.size w1 w2) (hB : B ≤ w1.heap.size := by first | exact h.size | omega) : Below B w w2 := below_then h hB k
def CoverPost (w : World) (l : List PG.S86) (e : Ending) (w' : World) : Prop :=
  ∃ v, e = .returned (.tuple #[v, .int .i64 0]) ∧ Kd.R PG.k86 86 w' w.heap.size (fun _ => True) v l ∧ Below w.heap.size w w'
theorem info3c : (Tryz.prog.info? 3).map (fun i => (i.zero, i.size, i.bytes)) = some (some (.int .i64 0), 1, 8) := by kernel_rfl

set_option maxHeartbeats 4000000 in
set_option maxRecDepth 100000 in
theorem Of_good (a b c d A B C D : Nat) (w : World) (ha : a ≤ c) (hb : b ≤ d) (hc : c ≤ 4294967295) (hd : d ≤ 4294967295)
    (hA : (a : Int) / 67108864 = (A : Int)) (hB : (b : Int) / 67108864 = (B : Int)) (hC : (c : Int) / 67108864 = (C : Int)) (hD : (d : Int) / 67108864 = (D : Int)) :
    Calls Tryz.prog 68 #[.agg #[.int .i64 a, .int .i64 b, .int .i64 c, .int .i64 d]] w (CoverPost w (foldC (srt (gridC A B (D + 1 - B) (C + 1 - A))))) := by
  have hf := BoxMay_eq a b c d
  rw [decide_eq_true (by omega)] at hf
  have hAC : A ≤ C := by omega
  have hBD : B ≤ D := by omega
  have hC63 : C ≤ 63 := by omega
  have hD63 : D ≤ 63 := by omega
  obtain ⟨H, hH⟩ : ∃ H : Nat, B + H = D + 1 := ⟨D + 1 - B, by omega⟩
  rw [show D + 1 - B = H by omega]
  obtain ⟨G, hG⟩ : ∃ G, foldC (srt (gridC A B H (C + 1 - A))) = G := ⟨_, rfl⟩
  rw [hG]
  have HG := Aside0.mk hG
  clear hG
  have HH := Lib.hid hH
  clear hH
  go_enter Tryz.func68, Tryz.ntmps68
  go_wp2_with (go_at_call 85; (with_reducible refine (geom_BoxMay.calls a b c d true _ hf).mono ?_); rintro e w1 ⟨rfl, hb1⟩; have c0 : w1.cell? ⟨w.heap.size, 0, none⟩ = some (.int .i64 a) := pw_cell_below hb1 (by simp); have c1 : w1.cell? ⟨w.heap.size, 1, none⟩ = some (.int .i64 b) := pw_cell_below hb1 (by simp); have c2 : w1.cell? ⟨w.heap.size, 2, none⟩ = some (.int .i64 c) := pw_cell_below hb1 (by simp); have c3 : w1.cell? ⟨w.heap.size, 3, none⟩ = some (.int .i64 d) := pw_cell_below hb1 (by simp); have HB := below_step (below_alloc (Below.refl _ w) _) hb1; clear hb1)
  go_loopw [4, 5] (fun s4 s5 wr => ∃ n X : Nat, Aside0 (X = A + n) ∧ X ≤ C + 1 ∧ s5 = .int .i64 (X : Int) ∧ Aside0 (Kd.R (Kd.int .i64) 3 wr w1.heap.size (fun _ => True) s4 (gridC A B H n)) ∧ Aside0 (Below w1.heap.size w1 wr)) (fun _ s5 _ => C + 1 - (intOf s5).toNat)
  case atStart => exact ⟨0, A, ⟨rfl⟩, by omega, rfl, ⟨Kd.R_nil _ _ _ _ _⟩, ⟨Below.refl _ _⟩⟩
  case round =>
    obtain ⟨n, X, HX, hn, rfl, hR, hW⟩ := hrel
    have c0' := (Below.cell hW.out (World.block_lt_of_cell? w1 _ c0)).trans c0
    have c1' := (Below.cell hW.out (World.block_lt_of_cell? w1 _ c1)).trans c1
    have c2' := (Below.cell hW.out (World.block_lt_of_cell? w1 _ c2)).trans c2
    have c3' := (Below.cell hW.out (World.block_lt_of_cell? w1 _ c3)).trans c3
    by_cases hlt : X ≤ C
    · go_wp2
      go_loopw [4, 6] (fun s4 s6 wz => ∃ m Y : Nat, Aside0 (Y = B + m) ∧ Y ≤ D + 1 ∧ s6 = .int .i64 (Y : Int) ∧ Aside0 (Kd.R (Kd.int .i64) 3 wz w1.heap.size (fun _ => True) s4 (gridC A B H n ++ rowC X B m)) ∧ Aside0 (Below w1.heap.size w1 wz)) (fun _ s6 _ => D + 1 - (intOf s6).toNat)
      case atStart => exact ⟨0, B, ⟨rfl⟩, by omega, rfl, ⟨by simpa [rowC] using hR.out⟩, hW⟩
      case round =>
        obtain ⟨m, Y, HY, hm, rfl, hR2, hW2⟩ := hrel
        clear hR hW c0' c1' c2' c3'
        have c3' := (Below.cell hW2.out (World.block_lt_of_cell? w1 _ c3)).trans c3
        by_cases hlt2 : Y ≤ D
        · have HCell := Aside0.mk (Cell_eq 6 20 X Y (by omega) (by omega) (by show _ < 64; omega) (by show _ < 64; omega) (by omega))
          have HL : Aside0 ((gridC A B H n ++ rowC X B m).length + 1 ≤ 100000) := ⟨by rw [List.length_append, gridC_length, rowC_length]; have := HH.out; have := HX.out; have := HY.out; have : n * H ≤ 64 * 64 := Nat.mul_le_mul (by omega) (by omega); omega⟩
          go_wp2_with (first
            | (go_at_call 83; (with_reducible refine (hilbert_Cell.calls 20 _ _ 6 _ 0 _ HCell.out).mono ?_); rintro e w3 ⟨rfl, hdr⟩; have hR3 := Aside0.mk (Kd.R_below hR2.out hdr.below); have hW3 := Aside0.mk (pw_below_then' hW2.out hdr.below hW2.out.size); clear hdr)
            | (at_builtin; refine Kd.R_append (Kd.int .i64) (w0 := w1) w1.heap.size rfl (.tmp 41) (.tmp 43) 35 3 (.int .i64 0) 8 rfl Tryz.underlying35 info3c rfl (by decide) (by omega) _ (gridC A B H n ++ rowC X B m) ((hil 6 X Y : Nat) : Int) [.int .i64 ((hil 6 X Y : Nat) : Int)] (fun _ => True) (fun _ => False) rfl rfl rfl (fun _ hk => hk.elim) (fun _ _ => trivial) hR3.out hW3.out hW3.out.size (by have := HL.out; omega) ?_; intro v5 w5 hr5 hb5 hg5 hat5))
          have hr6 : Aside0 (Kd.R (Kd.int .i64) 3 w5 w1.heap.size (fun _ => True) v5 (gridC A B H n ++ rowC X B (m + 1))) := ⟨by rw [rowC_succ, ← List.append_assoc, ← HY.out]; exact hr5⟩
          go_roundw
          case rel => first | exact ⟨m + 1, Y + 1, ⟨by have := HY.out; omega⟩, by omega, by go_num, hr6, ⟨hb5⟩⟩ | ((repeat apply Exists.intro); exact ⟨⟨m + 1, Y + 1, ⟨by have := HY.out; omega⟩, by omega, by go_num, hr6, ⟨hb5⟩⟩, rfl⟩)
          case measure => simp [intOf]; omega
        · obtain rfl : m = H := by have := HH.out; have := HY.out; omega
          have hR6 : Aside0 (Kd.R (Kd.int .i64) 3 wr w1.heap.size (fun _ => True) u4 (gridC A B m (n + 1))) := ⟨by rw [gridC_succ, ← HX.out]; exact hR2.out⟩
          go_wp2
          go_roundw
          case rel => first | exact ⟨n + 1, X + 1, ⟨by have := HX.out; omega⟩, by omega, by go_num, hR6, hW2⟩ | ((repeat apply Exists.intro); exact ⟨⟨n + 1, X + 1, ⟨by have := HX.out; omega⟩, by omega, by go_num, hR6, hW2⟩, rfl⟩)
          case measure => simp [intOf]; omega
    · obtain ⟨N, hN⟩ : ∃ N, N = C + 1 - A := ⟨_, rfl⟩
      obtain rfl : n = N := by have := HX.out; omega
      have HG' := HG.out
      rw [← hN] at HG'
      have HG2 := Aside0.mk HG'
      clear hN HG HG'
      have HL : Aside0 ((gridC A B H n).length ≤ 100000) := ⟨by rw [gridC_length]; have := HH.out; have := HX.out; have : n * H ≤ 64 * 64 := Nat.mul_le_mul (by omega) (by omega); omega⟩
      obtain ⟨As, cs, rfl⟩ := Kd.R_slice hR.out
      go_wp2_with (first
        | (go_at_call 86; (with_reducible refine (sort_calls w1.heap.size _ _ (gridC A B H n) _ (by have := HL.out; omega) hR.out).mono ?_); rintro e w3 ⟨rfl, hR3, hg3⟩))
      have HW3 : Aside0 (Below w1.heap.size w1 w3) := ⟨hW.out.grown hg3 hW.out.size (Kd.R_base hR.out)⟩
      have hlen : (srt (gridC A B H n)).length = (gridC A B H n).length := List.length_mergeSort _
      have hpos : 0 < (srt (gridC A B H n)).length := by
        rw [hlen, gridC_length]; have := HH.out; have := HX.out; exact Nat.mul_pos (by omega) (by omega)
      have hrng : Aside0 (∀ d ∈ srt (gridC A B H n), 0 ≤ d ∧ d ≤ 4095) := ⟨fun d hd => gridC_range A B H n (by have := HX.out; omega) (by have := HH.out; omega) d (List.mem_mergeSort.1 hd)⟩
      have HL2 : Aside0 ((srt (gridC A B H n)).length ≤ 100000) := ⟨by rw [hlen]; exact HL.out⟩
      rw [← hlen] at hR3 ⊢
      generalize srt (gridC A B H n) = S at *
      clear hlen
      obtain ⟨g, cap, hsl, _, hg, _⟩ := Kd.R_form hR3 hpos
      cases hsl
      obtain ⟨_, _, hC⟩ := Kd.R_reads' hR3
      have HC := Aside0.mk hC
      clear hC hR3 hR HL
      go_loopw [9, 49] (fun s9 s49 wz => ∃ i : Nat, i ≤ S.length ∧ s49 = .int .i64 (i : Int) ∧ Aside0 (Kd.R PG.k86 86 wz w3.heap.size (fun _ => True) s9 (foldC (S.take i))) ∧ Aside0 (Below w3.heap.size w3 wz)) (fun _ s49 _ => S.length - (intOf s49).toNat)
      case atStart => exact ⟨0, by omega, rfl, ⟨Kd.R_nil _ _ _ _ _⟩, ⟨Below.refl _ _⟩⟩
      case round =>
        obtain ⟨i, hi, rfl, hR4, hW4⟩ := hrel
        have hSL := HL2.out
        by_cases hlt3 : i < S.length
        · obtain ⟨dd, hdd⟩ : ∃ dd, S.getD i 0 = dd := ⟨_, rfl⟩
          have hmem : dd ∈ S := by rw [← hdd, List.getD_eq_getElem?_getD, List.getElem?_eq_getElem hlt3]; exact List.getElem_mem hlt3
          have hr := hrng.out dd hmem
          have hcl := cells_int (c := cs) HC.out i hlt3
          rw [hdd, Nat.zero_add] at hcl
          have hcl' := (Below.cell hW4.out (World.block_lt_of_cell? w3 _ hcl)).trans hcl
          have htk : S.take (i + 1) = S.take i ++ [dd] := by rw [List.take_succ_eq_append_getElem hlt3]; congr 2; rw [← hdd, List.getD_eq_getElem?_getD, List.getElem?_eq_getElem hlt3]; rfl
          have hadd := add_eq (foldC (S.take i)) (dd * 1048576) ((dd + 1) * 1048576) (by have := foldC_length (S.take i); rw [List.length_take] at this; have := HL2.out; omega)
          rw [← foldC_snoc, ← htk] at hadd
          have HADD := Aside0.mk hadd
          clear hadd htk hdd hmem
          go_wp2_with (first
            | (go_at_call 87; (with_reducible refine (PG.cover_add.calls (fun _ => True) _ (foldC (S.take i)) _ _ (foldC (S.take (i + 1))) w3 _ hW4.out hR4.out HADD.out).mono ?_); rintro e w5 ⟨v5, rfl, hR5, hW5, hK5⟩))
          have hR6 : Aside0 (Kd.R PG.k86 86 w5 w3.heap.size (fun _ => True) v5 (foldC (S.take (i + 1)))) := ⟨Kd.R_mono hR5 (fun _ _ => trivial)⟩
          go_roundw
          case rel => first | exact ⟨i + 1, by omega, by go_num, hR6, ⟨hW5⟩⟩ | ((repeat apply Exists.intro); exact ⟨⟨i + 1, by omega, by go_num, hR6, ⟨hW5⟩⟩, rfl⟩)
          case measure => simp [intOf]; omega
        · obtain rfl : i = S.length := by omega
          have hfin := hR4.out
          rw [List.take_length, HG2.out] at hfin
          obtain ⟨A9, c9, rfl⟩ := Kd.R_slice hfin
          have hwp : Below w.heap.size w wr := pw_below_then' (pw_below_then' HB HW3.out HB.size) hW4.out (Nat.le_trans HB.size HW3.out.size)
          have hfin2 := Aside0.mk (Kd.R_lower hfin (Nat.le_trans HB.size HW3.out.size))
          clear hfin
          go_wp2
          go_ret2
          exact ⟨_, rfl, hfin2.out, hwp⟩
end Go.Proofs.YtibakeahgcakmaaGreatDoor
/- What the command cover tells. -/
set_option linter.unusedVariables false
namespace Go.Proofs.YtibakeahgcakmaaGreatDoor
open Go.Shelf Go.RowKit Go.Proofs.YtibakeahgcakmaaGreatDoorW.PrintWords Go.Proofs.YtibakeahgcakmaaGreatDoorW.PrintLast Go.Proofs.YtibakeahgcakmaaGreatDoorW.PrintMore PF Curve

/-- How many places stretches have. -/
def sumC (l : List PG.S86) : Int := l.foldl (fun acc r => wrap64 (acc + wrap64 (r.f1 - r.f0))) 0
theorem sumC_snoc (l : List PG.S86) (r : PG.S86) : sumC (l ++ [r]) = wrap64 (sumC l + wrap64 (r.f1 - r.f0)) := by
  unfold sumC; rw [List.foldl_append]; rfl
theorem wrap64_range (x : Int) : -9223372036854775808 ≤ wrap64 x ∧ wrap64 x ≤ 9223372036854775807 := by unfold wrap64; omega
theorem sumC_range (l : List PG.S86) : -9223372036854775808 ≤ sumC l ∧ sumC l ≤ 9223372036854775807 := by
  rcases List.eq_nil_or_concat l with rfl | ⟨l', r, rfl⟩
  · simp [sumC]
  · rw [List.concat_eq_append, sumC_snoc]; exact wrap64_range _

/-- What Of tells behind the reading of four numbers. -/
def OfSays (a b c d : Int) (v1 : List PG.S86) (e1 : Int) : Prop :=
  ∀ W : World, Calls Tryz.prog 68 #[.agg #[.int .i64 a, .int .i64 b, .int .i64 c, .int .i64 d]] W fun e w' => ∃ A c', e = .returned (.tuple #[.slice A v1.length c', .int .i64 e1]) ∧ Kd.C PG.k86 w' A v1.length v1 ∧ Below W.heap.size W w'

set_option maxHeartbeats 4000000 in
set_option maxRecDepth 100000 in
theorem covers_calls (A : Option Addr) (c : Nat) (l : List Int) (x0 x1 x2 x3 : Int) (rs : List PG.S86) (e2 : Int) (w : World) (he : Env w) (hr : Kd.C (Kd.int .i64) w A l.length l) (hl : 3 < l.length)
    (h0 : rd l 0 = x0) (h1 : rd l 1 = x1) (h2 : rd l 2 = x2) (h3 : rd l 3 = x3) (hof : OfSays x0 x1 x2 x3 rs e2) (hrs : rs.length ≤ 100000) :
    Calls Tryz.prog 51 #[.slice A l.length c] w fun e w' => e = .returned (.tuple #[.string (itoaB rs.length ++ blankB ++ itoaB (sumC rs)), .int .i64 e2]) ∧ Below w.heap.size w w' := by
  obtain ⟨ad, rfl, k0⟩ := Kd.at_int hr 0 (by omega) (by omega)
  obtain ⟨ad1, e1, k1⟩ := Kd.at_int hr 1 (by omega) (by omega)
  cases e1
  obtain ⟨ad2, e2', k2⟩ := Kd.at_int hr 2 (by omega) (by omega)
  cases e2'
  obtain ⟨ad3, e3, k3⟩ := Kd.at_int hr 3 (by omega) (by omega)
  cases e3
  rw [h0] at k0; rw [h1] at k1; rw [h2] at k2; rw [h3] at k3
  clear h0 h1 h2 h3
  have q0 : w.cell? ad = some (.int .i64 x0) := by rw [show ad.add (Int.toNat 0) = ad from by cases ad; simp [Addr.add]] at k0; exact k0
  have q1 : w.cell? ⟨ad.block, ad.off + 1, none⟩ = some (.int .i64 x1) := k1
  have q2 : w.cell? ⟨ad.block, ad.off + 2, none⟩ = some (.int .i64 x2) := k2
  have q3 : w.cell? ⟨ad.block, ad.off + 3, none⟩ = some (.int .i64 x3) := k3
  clear k0 k1 k2 k3
  have g0 : (0 : Int) < (l.length : Int) := by omega
  have g1 : (1 : Int) < (l.length : Int) := by omega
  have g2 : (2 : Int) < (l.length : Int) := by omega
  have g3 : (3 : Int) < (l.length : Int) := by omega
  unfold OfSays at hof
  have HOF := Aside0.mk hof
  clear hof hr
  generalize l.length = n at *
  have n0 : 0 < n := by omega
  go_enter Tryz.func51, Tryz.ntmps51
  go_wp2
  go_region_held3 (fun w' => w'.cell? ad = some (.int .i64 x0) ∧ w'.cell? ⟨ad.block, ad.off + 1, none⟩ = some (.int .i64 x1) ∧ w'.cell? ⟨ad.block, ad.off + 2, none⟩ = some (.int .i64 x2) ∧ w'.cell? ⟨ad.block, ad.off + 3, none⟩ = some (.int .i64 x3) ∧ Aside0 (Below w.heap.size w w'))
    (first | (go_split_ands; refine ⟨?_, ?_, ?_, ?_, ?_⟩ <;> first | assumption | exact pw_cell_below ‹_› ‹_› | exact ⟨below_step (Aside0.out ‹_›) ‹_›⟩ | exact ⟨below_drew (Below.refl _ _)⟩))
    (first
      | (go_at_call 68; (with_reducible refine (HOF.out _).mono ?_); rintro e w' ⟨Ar, cr, rfl, hC, hb⟩; have HCr := Aside0.mk hC; clear hC))
  go_split_ands
  rename_i hz
  go_wp2
  have hsr := sumC_range rs
  go_loopw [6, 28] (fun s6 s28 wz => ∃ i : Nat, i ≤ rs.length ∧ s28 = .int .i64 (i : Int) ∧ s6 = .int .i64 (sumC (rs.take i)) ∧ Aside0 (Below w'.heap.size w' wz)) (fun _ s28 _ => rs.length - (intOf s28).toNat)
  case atStart => exact ⟨0, by omega, rfl, rfl, ⟨Below.refl _ _⟩⟩
  case round =>
    obtain ⟨i, hi, rfl, rfl, hW⟩ := hrel
    by_cases hlt : i < rs.length
    · have hr2 := sumC_snoc (rs.take i) (PG.rd_T86 rs i)
      obtain ⟨ad, ead, m0, m1⟩ := PG.at_T86 (Kd.C_below HCr.out hW.out) (i : Int) (by omega) (by omega)
      rw [Int.toNat_natCast] at m0 m1
      have htk : rs.take (i + 1) = rs.take i ++ [PG.rd_T86 rs i] := by
        rw [List.take_succ_eq_append_getElem hlt]; congr 2
        unfold PG.rd_T86; rw [Int.toNat_natCast, List.getD_eq_getElem?_getD, List.getElem?_eq_getElem hlt]; rfl
      rw [← htk] at hr2
      have HR2 := Aside0.mk hr2
      clear hr2 htk
      go_wp2
      go_roundw
      case rel => exact ⟨i + 1, by omega, by go_num, by rw [HR2.out], ⟨below_alloc hW.out _⟩⟩
      case measure => simp [intOf]; omega
    · obtain rfl : i = rs.length := by omega
      have hz2 : Below w.heap.size w wr := below_step hz.out hW.out
      rw [List.take_length]
      have sx := itoaB_size (rs.length : Int) (by omega) (by omega)
      have sy := itoaB_size (sumC rs) hsr.1 hsr.2
      have q1 : ¬ 9223372036854775807 < (itoaB (rs.length : Int)).size + 1 := by omega
      have q2 : ¬ 9223372036854775807 < (itoaB (rs.length : Int)).size + 1 + (itoaB (sumC rs)).size := by omega
      go_wp2_with (first
        | (go_at_call_of 46 (Value.int .i64 (rs.length : Int)); (with_reducible refine (itoa_calls (rs.length : Int) (by omega) (by omega) _ (he.below hz2)).mono ?_); rintro e w4 ⟨rfl, hsz, hb4⟩)
        | (go_at_call_of 46 (Value.int .i64 (sumC rs)); (with_reducible refine (itoa_calls (sumC rs) hsr.1 hsr.2 _ (he.below (below_step hz2 hb4))).mono ?_); rintro e w5 ⟨rfl, hsz5, hb5⟩))
      go_ret2
      exact ⟨rfl, below_step (below_step hz2 hb4) hb5⟩
end Go.Proofs.YtibakeahgcakmaaGreatDoor
/- Places in boxes; a region's operations, one by one: words for the walks of the geometry. -/
set_option linter.unusedVariables false
set_option linter.unusedSimpArgs false
namespace Go.Proofs.YtibakeahgcakmaaGreatDoor
open Go.Shelf Go.RowKit Go.Proofs.YtibakeahgcakmaaGreatDoorW.PrintWords Go.Proofs.YtibakeahgcakmaaGreatDoorW.PrintLast Go.Proofs.YtibakeahgcakmaaGreatDoorW.PrintMore PF Curve

theorem heap_below {w w' : World} {k : Nat} {o : Obj} (h : w.heap[k]? = some o) (hb : Below w.heap.size w w') : w'.heap[k]? = some o := by
  rw [hb.block k (Array.getElem?_eq_some_iff.1 h).1]; exact h

/-- Three points in new boxes, behind a call. -/
theorem boxes3 {w w1 : World} {ax ay bx byy cx cy : Int} (hb : Below (((w.alloc (.cells #[.int .i64 ax, .int .i64 ay] 38)).alloc (.cells #[.int .i64 bx, .int .i64 byy] 38)).alloc (.cells #[.int .i64 cx, .int .i64 cy] 38)).heap.size
    (((w.alloc (.cells #[.int .i64 ax, .int .i64 ay] 38)).alloc (.cells #[.int .i64 bx, .int .i64 byy] 38)).alloc (.cells #[.int .i64 cx, .int .i64 cy] 38)) w1) :
    w1.cell? ⟨w.heap.size, 0, none⟩ = some (.int .i64 ax) ∧ w1.cell? ⟨w.heap.size, 1, none⟩ = some (.int .i64 ay) ∧ w1.cell? ⟨w.heap.size + 1, 0, none⟩ = some (.int .i64 bx) ∧ w1.cell? ⟨w.heap.size + 1, 1, none⟩ = some (.int .i64 byy) ∧
    w1.cell? ⟨w.heap.size + 2, 0, none⟩ = some (.int .i64 cx) ∧ w1.cell? ⟨w.heap.size + 2, 1, none⟩ = some (.int .i64 cy) ∧ Below w.heap.size w w1 := by
  have h0 := heap_below (heap_below (heap_below (heap_alloc_new w (.cells #[.int .i64 ax, .int .i64 ay] 38)) (below_alloc (Below.refl _ _) (.cells #[.int .i64 bx, .int .i64 byy] 38))) (below_alloc (Below.refl _ _) (.cells #[.int .i64 cx, .int .i64 cy] 38))) hb
  have h1 := heap_below (heap_below (heap_alloc_new (w.alloc (.cells #[.int .i64 ax, .int .i64 ay] 38)) (.cells #[.int .i64 bx, .int .i64 byy] 38)) (below_alloc (Below.refl _ _) (.cells #[.int .i64 cx, .int .i64 cy] 38))) hb
  have h2 := heap_below (heap_alloc_new ((w.alloc (.cells #[.int .i64 ax, .int .i64 ay] 38)).alloc (.cells #[.int .i64 bx, .int .i64 byy] 38)) (.cells #[.int .i64 cx, .int .i64 cy] 38)) hb
  rw [show (w.alloc (.cells #[.int .i64 ax, .int .i64 ay] 38)).heap.size = w.heap.size + 1 from Array.size_push ..] at h1
  rw [show ((w.alloc (.cells #[.int .i64 ax, .int .i64 ay] 38)).alloc (.cells #[.int .i64 bx, .int .i64 byy] 38)).heap.size = w.heap.size + 2 from (Array.size_push ..).trans (congrArg (· + 1) (Array.size_push ..))] at h2
  refine ⟨?_, ?_, ?_, ?_, ?_, ?_, below_step (below_alloc (below_alloc (below_alloc (Below.refl _ w) _) _) _) hb⟩
  · rw [Lib.cell_of_heap h0]; rfl
  · rw [Lib.cell_of_heap h0]; rfl
  · rw [Lib.cell_of_heap h1]; rfl
  · rw [Lib.cell_of_heap h1]; rfl
  · rw [Lib.cell_of_heap h2]; rfl
  · rw [Lib.cell_of_heap h2]; rfl
section
variable {P : Program} {ops : Array Oper} {Q : Exit → Act → World → Prop} {S : World → Prop}
/-- Number i is taken first. -/
theorem tk (i d : Nat) {oi : Oper} {v : Value} {fuel : Nat} {l : Array Bool} {a : Act} {w : World} (hS : S w) (hc : (Region.noSelect ops && Region.free .any ops l i && (Region.ready .any ops l).contains i) = true) (hi : ops[i]? = some oi)
    (hd : oi.dst = some d) (hQ : ∀ c a w, Q (.panic c) (a.put (some d) v) w → Q (.panic c) a w) (hy : YieldsIf P ops S oi v a) (h : wpAnyH P .any ops Q S fuel (l.setIfInBounds i true) (a.put (some d) v) w) : wpAnyH P .any ops Q S (fuel + 1) l a w := by
  rw [← hd] at hQ h
  simp only [Bool.and_eq_true] at hc
  exact wpAnyH_take hi hc.1.1 hc.1.2 hc.2 hQ hy hS h
/-- Number i, a wanted call, alone may come up. -/
theorem tc (i d : Nat) {oi : Oper} {fuel : Nat} {l : Array Bool} {a : Act} {w : World} (hr : Region.ready .any ops l = [i]) (hi : ops[i]? = some oi) (hd : oi.dst = some d) (hw : Region.wanted oi (yielded ops a.tmps) = true)
    {f : FuncId} {fn : Func} {ag : Array Operand} {ts : Array TypeId} {args : Array Value} (hf : P.funcs[f]? = some fn) (hn : (fn.name == "runtime.NumGoroutine" || !fn.body.isSome) = false)
    (hop : oi.op = .call { callee := .value (.func f), args := ag, argTypes := ts })
    (h : Calls P f args w fun e w' => ∃ v, e = .returned v ∧ S w' ∧ (S w' → wpAnyH P .any ops Q S fuel (l.setIfInBounds i true) (a.put (some d) v) w')) (hargs : ag.map a.eval = args) : wpAnyH P .any ops Q S (fuel + 1) l a w := by
  rw [Bool.or_eq_false_iff, Bool.not_eq_false'] at hn
  refine wpAnyH_ready hr (by simp) (AllReadyH.cons hi (fun K hK => ?_) AllReadyH.nil)
  refine goes_ hf hn.1 hn.2 args hw rfl hop hargs (h.mono fun e w'' hh => ?_)
  obtain ⟨v, rfl, hs, hk⟩ := hh
  rw [← hd] at hk
  exact ⟨v, rfl, hK.out _ _ hs hk⟩
end
/-- Three, four places in boxes. -/
def P3 (g : Nat) (ax ay bx byy cx cy : Int) (w : World) : Prop := w.cell? ⟨g, 0, none⟩ = some (.int .i64 ax) ∧ w.cell? ⟨g, 1, none⟩ = some (.int .i64 ay) ∧ w.cell? ⟨g + 1, 0, none⟩ = some (.int .i64 bx) ∧ w.cell? ⟨g + 1, 1, none⟩ = some (.int .i64 byy) ∧
  w.cell? ⟨g + 1 + 1, 0, none⟩ = some (.int .i64 cx) ∧ w.cell? ⟨g + 1 + 1, 1, none⟩ = some (.int .i64 cy)
theorem P3.below {g : Nat} {ax ay bx byy cx cy : Int} {w w' : World} (h : P3 g ax ay bx byy cx cy w) (hb : Below w.heap.size w w') : P3 g ax ay bx byy cx cy w' :=
  ⟨pw_cell_below hb h.1, pw_cell_below hb h.2.1, pw_cell_below hb h.2.2.1, pw_cell_below hb h.2.2.2.1, pw_cell_below hb h.2.2.2.2.1, pw_cell_below hb h.2.2.2.2.2⟩
def P4 (g : Nat) (ax ay bx byy cx cy dx dy : Int) (w : World) : Prop := P3 g ax ay bx byy cx cy w ∧ w.cell? ⟨g + 1 + 1 + 1, 0, none⟩ = some (.int .i64 dx) ∧ w.cell? ⟨g + 1 + 1 + 1, 1, none⟩ = some (.int .i64 dy)
theorem P4.below {g : Nat} {ax ay bx byy cx cy dx dy : Int} {w w' : World} (h : P4 g ax ay bx byy cx cy dx dy w) (hb : Below w.heap.size w w') : P4 g ax ay bx byy cx cy dx dy w' :=
  ⟨h.1.below hb, pw_cell_below hb h.2.1, pw_cell_below hb h.2.2⟩
def pt (x y : Int) : Obj := .cells #[.int .i64 x, .int .i64 y] 38
theorem P3.mk (w : World) (ax ay bx byy cx cy : Int) : P3 w.heap.size ax ay bx byy cx cy (((w.alloc (pt ax ay)).alloc (pt bx byy)).alloc (pt cx cy)) ∧ Below w.heap.size w (((w.alloc (pt ax ay)).alloc (pt bx byy)).alloc (pt cx cy)) := by
  obtain ⟨h0, h1, h2, h3, h4, h5, h6⟩ := boxes3 (Below.refl _ (((w.alloc (pt ax ay)).alloc (pt bx byy)).alloc (pt cx cy)))
  exact ⟨⟨h0, h1, h2, h3, h4, h5⟩, h6⟩
theorem P4.mk (w : World) (ax ay bx byy cx cy dx dy : Int) : P4 w.heap.size ax ay bx byy cx cy dx dy ((((w.alloc (pt ax ay)).alloc (pt bx byy)).alloc (pt cx cy)).alloc (pt dx dy)) ∧ Below w.heap.size w ((((w.alloc (pt ax ay)).alloc (pt bx byy)).alloc (pt cx cy)).alloc (pt dx dy)) := by
  obtain ⟨h, hb⟩ := P3.mk w ax ay bx byy cx cy
  have hs : (((w.alloc (pt ax ay)).alloc (pt bx byy)).alloc (pt cx cy)).heap.size = w.heap.size + 1 + 1 + 1 := (Array.size_push ..).trans (congrArg (· + 1) ((Array.size_push ..).trans (congrArg (· + 1) (Array.size_push ..))))
  have hn := heap_alloc_new (((w.alloc (pt ax ay)).alloc (pt bx byy)).alloc (pt cx cy)) (pt dx dy)
  rw [hs] at hn
  exact ⟨⟨h.below (below_alloc (Below.refl _ _) _), by rw [Lib.cell_of_heap hn]; rfl, by rw [Lib.cell_of_heap hn]; rfl⟩, below_alloc hb _⟩
theorem sg_t {x y : Int} (hx : x = -1 ∨ x = 0 ∨ x = 1) (hy : y = -1 ∨ y = 0 ∨ y = 1) : IntKind.i64.wrap (x * y) = x * y := by
  rcases hx with rfl | rfl | rfl <;> rcases hy with rfl | rfl | rfl <;> decide +kernel
end Go.Proofs.YtibakeahgcakmaaGreatDoor
