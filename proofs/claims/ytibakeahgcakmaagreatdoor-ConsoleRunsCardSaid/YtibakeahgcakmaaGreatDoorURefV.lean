/- What the law's told answers: a line's answer, the console's own. -/
import Derived.Test.YtibakeahgcakmaaGreatDoorURefU
set_option linter.unusedVariables false
set_option linter.unusedSimpArgs false
namespace Go.Proofs.YtibakeahgcakmaaGreatDoor
open Go.Shelf Go.RowKit Go.Proofs.YtibakeahgcakmaaGreatDoorW.PrintWords Go.Proofs.YtibakeahgcakmaaGreatDoorW.PrintLast Go.Proofs.YtibakeahgcakmaaGreatDoorW.PrintMore PF Curve

def nameL : List ByteArray := [turnW, crossW, curveW, placeW, coverW, ownerW]
def nameAt (i : Nat) : ByteArray := nameL.getD i turnW
def manyAt (i : Nat) : Int := [6, 8, 2, 1, 4, 2].getD i 0
theorem isCmd_at (i : Nat) (hi : i < 6) (n : Int) : isCmd (nameAt i) n = (n == manyAt i) := by
  have : i = 0 ∨ i = 1 ∨ i = 2 ∨ i = 3 ∨ i = 4 ∨ i = 5 := by omega
  rcases this with rfl | rfl | rfl | rfl | rfl | rfl <;> simp [isCmd, eqB, nameAt, nameL, manyAt]
theorem isCmd_none (wd : ByteArray) (h : ∀ i, i < 6 → wd ≠ nameAt i) (n : Int) : isCmd wd n = false := by
  have e : ∀ i, i < 6 → eqB wd (nameAt i) = false := fun i hi => by
    rw [← Bool.not_eq_true]; intro hh; exact h i hi ((eqB_iff _ _).1 hh)
  have e0 : eqB wd turnW = false := e 0 (by omega)
  have e1 : eqB wd crossW = false := e 1 (by omega)
  have e2 : eqB wd curveW = false := e 2 (by omega)
  have e3 : eqB wd placeW = false := e 3 (by omega)
  have e4 : eqB wd coverW = false := e 4 (by omega)
  have e5 : eqB wd ownerW = false := e 5 (by omega)
  unfold isCmd
  rw [e0, e1, e2, e3, e4, e5]; rfl
def numsV (l : List ByteArray) : List Int := l.map fun (s : ByteArray) => numV s.data.toList
theorem numsL_V : ∀ l : List ByteArray, numsL l = if ∀ x ∈ numsV l, 0 ≤ x then some (numsV l) else none
  | [] => by rw [if_pos (fun x hx => by simp [numsV] at hx)]; rfl
  | s :: t => by
    have ih := numsL_V t
    have e : numsV (s :: t) = numV s.data.toList :: numsV t := rfl
    unfold numsL
    rw [ih, e]
    cases hx : numL s.data.toList with
    | none =>
      have hv : numV s.data.toList = -1 := by unfold numV; rw [hx]; rfl
      have hn : ¬ ∀ x ∈ numV s.data.toList :: numsV t, 0 ≤ x := fun h => by have := h (numV s.data.toList) (List.mem_cons_self ..); omega
      rw [if_neg hn]
    | some x =>
      have hv : numV s.data.toList = x := by unfold numV; rw [hx]; rfl
      have := numL_range _ _ hx
      by_cases hall : ∀ x ∈ numsV t, 0 ≤ x
      · rw [if_pos hall, if_pos (fun y hy => by
          rcases List.mem_cons.1 hy with rfl | hy
          · omega
          · exact hall y hy), hv]
      · rw [if_neg hall, if_neg (fun h => hall fun y hy => h y (List.mem_cons_of_mem _ hy))]
theorem turnT_eq (xs : List Int) : tellR (turnR xs) = turnT (rd xs 0) (rd xs 1) (rd xs 2) (rd xs 3) (rd xs 4) (rd xs 5) := by
  unfold turnR turnT tellR; split <;> rfl
theorem crossT_eq (xs : List Int) : tellR (crossR xs) = crossT (rd xs 0) (rd xs 1) (rd xs 2) (rd xs 3) (rd xs 4) (rd xs 5) (rd xs 6) (rd xs 7) := by
  unfold crossR crossT tellR; split <;> rfl
theorem curveT_eq (xs : List Int) : tellR (curveR xs) = curveT (rd xs 0) (rd xs 1) := by
  unfold curveR curveT tellR; split <;> rfl
theorem placeT_eq (xs : List Int) : tellR (placeR xs) = placeT (rd xs 0) := by
  unfold placeR placeT tellR; split <;> rfl
theorem coverT_eq (xs : List Int) : tellR (coversR xs) = coverT (rd xs 0) (rd xs 1) (rd xs 2) (rd xs 3) := by
  unfold coversR coverT tellR; split <;> rfl
theorem ownerT_eq (a b : Int) : tellR (ownerR a b) = ownerT a b := by
  unfold ownerR ownerT tellR; split
  · rfl
  · split <;> rfl
/-- turns and others at a command's word and numbers. -/
theorem tells_ref (i : Nat) (hi : i < 6) (xs : List Int) (hl : (xs.length : Int) = manyAt i) (hp : ∀ x ∈ xs, 0 ≤ x) (g c : Nat) (W : World) (hC : Kd.C (Kd.int .i64) W (some ⟨g, 0, none⟩) xs.length xs) :
    Calls Tryz.prog (if i < 2 then 23 else 24) #[.string (nameAt i), .slice (some ⟨g, 0, none⟩) xs.length c] W fun e w' => e = .returned (.string (tellR (doesR (nameAt i) xs))) ∧ Below W.heap.size W w' := by
  have k : ∀ j : Nat, j < xs.length → W.cell? ⟨g, 0 + j, none⟩ = some (.int .i64 (rd xs (j : Int))) := by
    intro j hj
    obtain ⟨ad, e, hc⟩ := Kd.at_int hC (j : Int) (by omega) (by omega)
    cases e
    rw [add_plain, Int.toNat_natCast] at hc
    rw [Nat.zero_add]; exact hc
  have hr : ∀ j : Nat, j < xs.length → 0 ≤ rd xs (j : Int) := by
    intro j hj
    unfold rd
    rw [Int.toNat_natCast, List.getD_eq_getElem?_getD, List.getElem?_eq_getElem hj]
    exact hp _ (List.getElem_mem hj)
  have : i = 0 ∨ i = 1 ∨ i = 2 ∨ i = 3 ∨ i = 4 ∨ i = 5 := by omega
  rcases this with rfl | rfl | rfl | rfl | rfl | rfl
  · have hl' : xs.length = 6 := by simp only [manyAt, List.getD_cons_zero, List.getD_cons_succ] at hl; omega
    refine refturns_calls ⟨g, 0, none⟩ c xs.length turnW _ _ _ _ _ _ _ W (by omega) (k 0 (by omega)) (k 1 (by omega)) (k 2 (by omega)) (k 3 (by omega)) (k 4 (by omega)) (k 5 (by omega)) rfl (.inl ⟨rfl, turnT_eq xs⟩)
  · have hl' : xs.length = 8 := by simp only [manyAt, List.getD_cons_zero, List.getD_cons_succ] at hl; omega
    refine refturns_calls ⟨g, 0, none⟩ c xs.length crossW _ _ _ _ _ _ _ W (by omega) (k 0 (by omega)) (k 1 (by omega)) (k 2 (by omega)) (k 3 (by omega)) (k 4 (by omega)) (k 5 (by omega)) rfl (.inr ⟨rfl, by omega, _, _, k 6 (by omega), k 7 (by omega), crossT_eq xs⟩)
  · have hl' : xs.length = 2 := by simp only [manyAt, List.getD_cons_zero, List.getD_cons_succ] at hl; omega
    rw [show tellR (doesR (nameAt 2) xs) = curveT (rd xs 0) (rd xs 1) from curveT_eq xs]
    exact refcurve_calls ⟨g, 0, none⟩ c xs.length _ _ W (by omega) (k 0 (by omega)) (k 1 (by omega)) rfl
  · have hl' : xs.length = 1 := by simp only [manyAt, List.getD_cons_zero, List.getD_cons_succ] at hl; omega
    rw [show tellR (doesR (nameAt 3) xs) = placeT (rd xs 0) from placeT_eq xs]
    exact refplace_calls ⟨g, 0, none⟩ c xs.length _ W (by omega) (k 0 (by omega)) (hr 0 (by omega)) rfl
  · have hl' : xs.length = 4 := by simp only [manyAt, List.getD_cons_zero, List.getD_cons_succ] at hl; omega
    rw [show tellR (doesR (nameAt 4) xs) = coverT (rd xs 0) (rd xs 1) (rd xs 2) (rd xs 3) from coverT_eq xs]
    exact refcover_calls ⟨g, 0, none⟩ c xs.length _ _ _ _ W (by omega) (k 0 (by omega)) (k 1 (by omega)) (k 2 (by omega)) (k 3 (by omega)) rfl
  · have hl' : xs.length = 2 := by simp only [manyAt, List.getD_cons_zero, List.getD_cons_succ] at hl; omega
    rw [show tellR (doesR (nameAt 5) xs) = ownerT (rd xs 0) (rd xs 1) from ownerT_eq (rd xs 0) (rd xs 1)]
    by_cases hx : rd xs 0 < 1 ∨ 8 < rd xs 0
    · unfold ownerT; rw [if_pos hx]
      exact refowner_bad ⟨g, 0, none⟩ c xs.length _ W (by omega) (k 0 (by omega)) rfl hx
    · exact refowner_ok ⟨g, 0, none⟩ c xs.length _ _ W (by omega) (k 0 (by omega)) (k 1 (by omega)) rfl (by omega) (by omega) (hr 1 (by omega))
theorem bad_lit : (⟨#[101, 114, 114, 111, 114, 32, 50, 53, 48, 48]⟩ : ByteArray) = failedB 2500 := bytes_ext1 _ _ failed_2500.symm
theorem line_at (i : Nat) (hi : i < 6) (rest : List ByteArray) : lineB (nameAt i :: rest) = if (rest.length : Int) = manyAt i ∧ ∀ x ∈ numsV rest, 0 ≤ x then tellR (doesR (nameAt i) (numsV rest)) else failedB 2500 := by
  simp only [lineB]
  rw [isCmd_at i hi, numsL_V]
  by_cases h : (rest.length : Int) = manyAt i
  · rw [if_pos (by simpa using h)]
    by_cases h2 : ∀ x ∈ numsV rest, 0 ≤ x
    · rw [if_pos h2, if_pos ⟨h, h2⟩]; rfl
    · rw [if_neg h2, if_neg (fun hh => h2 hh.2)]
  · rw [if_neg (by simpa using h), if_neg (fun hh => h hh.1)]
theorem line_none (wd : ByteArray) (h : ∀ i, i < 6 → wd ≠ nameAt i) (rest : List ByteArray) : lineB (wd :: rest) = failedB 2500 := by
  simp only [lineB]
  rw [isCmd_none wd h, if_neg (by decide)]
set_option maxHeartbeats 8000000 in
set_option maxRecDepth 100000 in
theorem told_calls (g c : Nat) (wd : ByteArray) (rest : List ByteArray) (w : World) (hg : g < w.heap.size) (k0 : w.cell? ⟨g, 0, none⟩ = some (.string wd))
    (ks : ∀ i s, rest[i]? = some s → w.cell? ⟨g, 1 + i, none⟩ = some (.string s)) (hl : rest.length ≤ 100000) :
    Calls Tryz.prog 12 #[.slice (some ⟨g, 0, none⟩) (rest.length + 1) c] w fun e w' => e = .returned (.string (lineB (wd :: rest))) ∧ Below w.heap.size w w' := by
  have HLA := Aside0.mk (fun i (hi : i < 6) (e : wd = nameAt i) => (congrArg (fun x => lineB (x :: rest)) e).trans (line_at i hi rest))
  have HLN := Aside0.mk (fun h => line_none wd h rest)
  have KS := Aside0.mk ks
  clear ks
  generalize lineB (wd :: rest) = LB at *
  obtain ⟨m, hm⟩ : ∃ m, m = rest.length := ⟨_, rfl⟩
  have HM := Aside0.mk hm
  rw [← hm] at hl ⊢
  clear hm
  have n0 : 0 < m + 1 := by omega
  go_enter Tryz.func12, Tryz.ntmps12
  go_upto_region 3 with (fail)
  have BM := heap_alloc_new (w.alloc (.cells #[.string turnW, .string crossW, .string curveW, .string placeW, .string coverW, .string ownerW] 9)) (.cells #[.int .i64 6, .int .i64 8, .int .i64 2, .int .i64 1, .int .i64 4, .int .i64 2] 3)
  have BN := heap_below (heap_alloc_new w (.cells #[.string turnW, .string crossW, .string curveW, .string placeW, .string coverW, .string ownerW] 9)) (below_alloc (Below.refl _ _) (.cells #[.int .i64 6, .int .i64 8, .int .i64 2, .int .i64 1, .int .i64 4, .int .i64 2] 3))
  have HB := below_alloc (below_alloc (Below.refl w.heap.size w) (.cells #[.string turnW, .string crossW, .string curveW, .string placeW, .string coverW, .string ownerW] 9)) (.cells #[.int .i64 6, .int .i64 8, .int .i64 2, .int .i64 1, .int .i64 4, .int .i64 2] 3)
  rw [show (w.alloc (.cells #[.string turnW, .string crossW, .string curveW, .string placeW, .string coverW, .string ownerW] 9)).heap.size = w.heap.size + 1 from Array.size_push ..] at BM
  generalize World.alloc _ _ = wA at *
  have HN : Aside0 (∀ i, i < 6 → wA.cell? ⟨w.heap.size, i, none⟩ = some (.string (nameAt i))) := ⟨fun i hi => by
    rw [Lib.cell_of_heap BN]
    have : i = 0 ∨ i = 1 ∨ i = 2 ∨ i = 3 ∨ i = 4 ∨ i = 5 := by omega
    rcases this with rfl | rfl | rfl | rfl | rfl | rfl <;> rfl⟩
  have HMA : Aside0 (∀ i, i < 6 → wA.cell? ⟨w.heap.size + 1, i, none⟩ = some (.int .i64 (manyAt i))) := ⟨fun i hi => by
    rw [Lib.cell_of_heap BM]
    have : i = 0 ∨ i = 1 ∨ i = 2 ∨ i = 3 ∨ i = 4 ∨ i = 5 := by omega
    rcases this with rfl | rfl | rfl | rfl | rfl | rfl <;> rfl⟩
  clear BM BN
  have HBA := Aside0.mk HB
  clear HB
  go_wp2
  go_loopw [5, 6] (fun s5 s6 wr => ∃ t : Nat, t ≤ m ∧ s6 = .int .i64 ((t : Int) + 1) ∧ Aside0 (Kd.R (Kd.int .i64) 3 wr wA.heap.size (fun _ => True) s5 (numsV (rest.take t))) ∧ Aside0 (Below wA.heap.size wA wr)) (fun _ s6 _ => m + 1 - (intOf s6).toNat)
  case atStart => exact ⟨0, by omega, rfl, ⟨Kd.R_nil _ _ _ _ _⟩, ⟨Below.refl _ _⟩⟩
  case round =>
    obtain ⟨t, ht, rfl, HR, HW⟩ := hrel
    by_cases hlt : t < m
    · obtain ⟨s, hs⟩ : ∃ s, rest[t]? = some s := ⟨rest[t]'(by have := HM.out; omega), List.getElem?_eq_getElem _⟩
      have k3 : wr.cell? ⟨g, t + 1, none⟩ = some (.string s) := by
        have := pw_cell_below HW.out (pw_cell_below HBA.out (KS.out t s hs))
        rwa [Nat.add_comm 1 t] at this
      have hsn : Aside0 (numsV (rest.take (t + 1)) = numsV (rest.take t) ++ [numV s.data.toList]) := ⟨by
        have hlt' : t < rest.length := by have := HM.out; omega
        rw [List.take_succ_eq_append_getElem hlt']
        rw [List.getElem?_eq_getElem hlt'] at hs
        cases hs
        unfold numsV; rw [List.map_append]; rfl⟩
      have hlen : Aside0 ((numsV (rest.take t)).length ≤ 100000) := ⟨by unfold numsV; rw [List.length_map, List.length_take]; omega⟩
      have C := Aside0.mk (PH.furlonglaw25_number.calls 20 s (numV s.data.toList) wr (refnumber_eq s))
      generalize numV s.data.toList = x at *
      clear hs
      go_wp2_with (first
        | (go_at_call 22; (with_reducible refine C.out.mono ?_); rintro e w3 ⟨rfl, hdr⟩; have hR3 := Aside0.mk (Kd.R_below HR.out hdr.below); have hW3 := Aside0.mk (pw_below_then' HW.out hdr.below HW.out.size); clear hdr)
        | (at_builtin; refine Kd.R_append (Kd.int .i64) (w0 := wA) wA.heap.size rfl (.tmp 17) (.tmp 23) 35 3 (.int .i64 0) 8 rfl Tryz.underlying35 info3c rfl (by decide) (by omega) _ (numsV (rest.take t)) x [.int .i64 x] (fun _ => True) (fun _ => False) rfl rfl rfl (fun _ hk => hk.elim) (fun _ _ => trivial) hR3.out hW3.out hW3.out.size (by have := hlen.out; omega) ?_; intro v5 w5 hr5 hb5 hg5 hat5))
      refine ⟨⟨t + 1, by omega, by go_num, ⟨by rw [hsn.out]; exact hr5⟩, ⟨hb5⟩⟩, ?_⟩
      simp [intOf]; omega
    · obtain rfl : t = m := by omega
      have hR := HR.out
      rw [HM.out, List.take_length] at hR
      have hlx : (numsV rest).length = t := by unfold numsV; rw [List.length_map]; exact HM.out.symm
      obtain ⟨xs, hxs⟩ : ∃ xs, numsV rest = xs := ⟨_, rfl⟩
      rw [hxs] at hR hlx
      have HX := Aside0.mk hxs
      obtain ⟨A5, c5, rfl, hc5, hC⟩ := Kd.R_reads hR
      have hA5 : 0 < t → ∃ g5, A5 = some ⟨g5, 0, none⟩ := fun h => by
        obtain ⟨g5, c', e, _⟩ := Kd.R_form hR (by omega)
        cases e; exact ⟨g5, rfl⟩
      have HA5 := Aside0.mk hA5
      have HC := Aside0.mk hC
      have HLX := Aside0.mk hlx
      clear hR hxs hA5 hC HR hlx ht hlt
      go_wp2
      generalize wr = wE at *
      have lg : g < w.heap.size := hg
      have HWE := HW
      clear HW
      have n6 : 0 < t + 1 := n0
      go_loopw [7] (fun s7 wz => ∃ i : Nat, i ≤ 6 ∧ s7 = .int .i64 (i : Int) ∧ Aside0 (∀ j, j < i → wd ≠ nameAt j) ∧ Aside0 (Below wE.heap.size wE wz)) (fun s7 _ => 6 - (intOf s7).toNat)
      case atStart => exact ⟨0, by omega, rfl, ⟨fun j h => by omega⟩, ⟨Below.refl _ _⟩⟩
      case round =>
        obtain ⟨i, hi, rfl, HNO, HZ⟩ := hrel
        have q0 : wr.cell? ⟨g, 0, none⟩ = some (.string wd) := pw_cell_below HZ.out (pw_cell_below HWE.out (pw_cell_below HBA.out k0))
        by_cases hlt : i < 6
        · have i1 : (i : Int) < 6 := by omega
          have i0 : (0 : Int) ≤ (i : Int) := by omega
          have q1 : wr.cell? ⟨w.heap.size, i, none⟩ = some (.string (nameAt i)) := pw_cell_below HZ.out (pw_cell_below HWE.out (HN.out i hlt))
          have q2 : wr.cell? ⟨w.heap.size + 1, i, none⟩ = some (.int .i64 (manyAt i)) := pw_cell_below HZ.out (pw_cell_below HWE.out (HMA.out i hlt))
          by_cases he : wd = nameAt i
          · have hq : (wd.toList == (nameAt i).toList) = true := by rw [toList_beq]; exact (eqB_iff _ _).2 he
            have hla := HLA.out i hlt he
            rw [HX.out] at hla
            have HE := Aside0.mk he
            clear he
            go_upto_region 11 with (fail)
            go_region_held3 (fun w' => w'.cell? ⟨g, 0, none⟩ = some (.string wd) ∧ w'.cell? ⟨w.heap.size, i, none⟩ = some (.string (nameAt i)) ∧ Aside0 (Below wr.heap.size wr w'))
              (first | (go_split_ands; refine ⟨?_, ?_, ?_⟩ <;> first | assumption | exact pw_cell_below ‹_› ‹_› | exact ⟨below_step (Aside0.out ‹_›) ‹_›⟩ | exact ⟨below_drew (Below.refl _ _)⟩))
              (first | fail)
            go_split_ands
            rename_i hz5
            have HZ5 := Aside0.mk (below_step HZ.out hz5.out)
            have q2' := pw_cell_below hz5.out q2
            by_cases hm : (xs.length : Int) = manyAt i
            · have hmb : ((xs.length : Int) != manyAt i) = false := bne_eq_false_iff_eq.2 hm
              have hmb' : ((xs.length : Int) == manyAt i) = true := beq_iff_eq.2 hm
              have HMM := Aside0.mk hm
              have hpos : 0 < t := by
                have h1 := HLX.out
                have h2 : 1 ≤ manyAt i := by
                  have : i = 0 ∨ i = 1 ∨ i = 2 ∨ i = 3 ∨ i = 4 ∨ i = 5 := by omega
                  rcases this with rfl | rfl | rfl | rfl | rfl | rfl <;> decide
                omega
              obtain ⟨g5, rfl⟩ := HA5.out hpos
              have hlr : (rest.length : Int) = (xs.length : Int) := by have := HLX.out; have := HM.out; omega
              rw [hlr] at hla
              clear hlr hm hpos
              go_wp2
              generalize World.drew wr = wF at *
              have HLA2 := Aside0.mk hla
              clear hla
              go_loopw [8] (fun s8 wz => ∃ j : Nat, j ≤ xs.length ∧ s8 = .int .i64 (j : Int) ∧ Aside0 (∀ x ∈ xs.take j, 0 ≤ x) ∧ Aside0 (Below wF.heap.size wF wz)) (fun s8 _ => xs.length - (intOf s8).toNat)
              case atStart => exact ⟨0, by omega, rfl, ⟨fun x hx => by simp at hx⟩, ⟨Below.refl _ _⟩⟩
              case round =>
                obtain ⟨j, hj, rfl, HP, HJ⟩ := hrel
                have hCz : Kd.C (Kd.int .i64) wr (some ⟨g5, 0, none⟩) xs.length xs := Kd.C_below (Kd.C_below HC.out HZ5.out) HJ.out
                by_cases hlt2 : j < xs.length
                · obtain ⟨ad, e, hcj⟩ := Kd.at_int hCz (j : Int) (by omega) (by omega)
                  cases e
                  rw [add_plain, Int.toNat_natCast] at hcj
                  have hxj : rd xs (j : Int) = xs[j] := by unfold rd; rw [Int.toNat_natCast, List.getD_eq_getElem?_getD, List.getElem?_eq_getElem hlt2]; rfl
                  rw [hxj] at hcj
                  have htk : xs.take (j + 1) = xs.take j ++ [xs[j]] := List.take_succ_eq_append_getElem hlt2
                  have hmem : xs[j] ∈ xs := List.getElem_mem hlt2
                  generalize xs[j] = x at *
                  have j0 : (0 : Int) ≤ (j : Int) := by omega
                  have j1 : (j : Int) < (xs.length : Int) := by omega
                  have j2 : (j : Int) < 200000 := by have := HLX.out; omega
                  have HTK := Aside0.mk htk
                  have HMEM := Aside0.mk hmem
                  clear htk hmem hxj hCz
                  by_cases hneg : x < 0
                  · have HLAD := Aside0.mk (HLA2.out.trans (if_neg (fun h => by have := h.2 x HMEM.out; omega)))
                    go_wp2
                    go_ret
                    exact ⟨by rw [HLAD.out]; exact congrArg (fun x => Ending.returned (.string x)) bad_lit, below_step (below_step (below_step HBA.out HWE.out) HZ5.out) HJ.out⟩
                  · have HP2 : Aside0 (∀ y ∈ xs.take (j + 1), 0 ≤ y) := ⟨fun y hy => by
                      rw [HTK.out] at hy
                      rcases List.mem_append.1 hy with hy | hy
                      · exact HP.out y hy
                      · rw [List.mem_singleton.1 hy]; omega⟩
                    go_wp2
                    refine ⟨⟨j + 1, by omega, by go_num, HP2, HJ⟩, ?_⟩
                    simp [intOf]; omega
                · obtain rfl : j = xs.length := by omega
                  have hall : ∀ x ∈ xs, 0 ≤ x := by have := HP.out; rwa [List.take_length] at this
                  have HLAD := Aside0.mk (HLA2.out.trans (if_pos ⟨HMM.out, hall⟩))
                  have T := tells_ref i hlt xs HMM.out hall g5 c5 wr hCz
                  rw [← HE.out] at T HLAD
                  have q0' : wr.cell? ⟨g, 0, none⟩ = some (.string wd) := pw_cell_below HJ.out (pw_cell_below hz5.out q0)
                  clear hall hCz HP
                  by_cases h2 : i < 2
                  · rw [if_pos h2] at T
                    have TT := Aside0.mk T
                    clear T
                    have i2 : (i : Int) < 2 := by omega
                    go_wp2_with (go_at_call 23; (with_reducible refine TT.out.mono ?_); rintro e w7 ⟨rfl, hb7⟩)
                    go_ret
                    exact ⟨by rw [HLAD.out]; rfl, below_step (below_step (below_step (below_step HBA.out HWE.out) HZ5.out) HJ.out) hb7⟩
                  · rw [if_neg h2] at T
                    have TT := Aside0.mk T
                    clear T
                    have i2 : ¬ (i : Int) < 2 := by omega
                    go_wp2_with (go_at_call 24; (with_reducible refine TT.out.mono ?_); rintro e w7 ⟨rfl, hb7⟩)
                    go_ret
                    exact ⟨by rw [HLAD.out]; rfl, below_step (below_step (below_step (below_step HBA.out HWE.out) HZ5.out) HJ.out) hb7⟩
            · have hmb : ((xs.length : Int) != manyAt i) = true := bne_iff_ne.2 hm
              have hmb' : ((xs.length : Int) == manyAt i) = false := beq_eq_false_iff_ne.2 hm
              have hlr : (rest.length : Int) = (xs.length : Int) := by have := HLX.out; have := HM.out; omega
              rw [hlr, if_neg (fun h => hm h.1)] at hla
              have HLAD := Aside0.mk hla
              clear hla hlr hm
              go_wp2
              go_ret
              exact ⟨by rw [HLAD.out]; exact congrArg (fun x => Ending.returned (.string x)) bad_lit, below_step (below_step HBA.out HWE.out) HZ5.out⟩
          · have hq : (wd.toList == (nameAt i).toList) = false := by rw [toList_beq, ← Bool.not_eq_true]; exact fun h => he ((eqB_iff _ _).1 h)
            have HNO2 : Aside0 (∀ j, j < i + 1 → wd ≠ nameAt j) := ⟨fun j hj => by
              by_cases e : j = i
              · subst e; exact he
              · exact HNO.out j (by omega)⟩
            clear he
            go_upto_region 11 with (fail)
            go_region_held3 (fun w' => w'.cell? ⟨g, 0, none⟩ = some (.string wd) ∧ w'.cell? ⟨w.heap.size, i, none⟩ = some (.string (nameAt i)) ∧ Aside0 (Below wr.heap.size wr w'))
              (first | (go_split_ands; refine ⟨?_, ?_, ?_⟩ <;> first | assumption | exact pw_cell_below ‹_› ‹_› | exact ⟨below_step (Aside0.out ‹_›) ‹_›⟩ | exact ⟨below_drew (Below.refl _ _)⟩))
              (first | fail)
            go_split_ands
            rename_i hz5
            have HZ5 := Aside0.mk (below_step HZ.out hz5.out)
            go_wp2
            refine ⟨⟨i + 1, by omega, by go_num, HNO2, HZ5⟩, ?_⟩
            simp [intOf]; omega
        · obtain rfl : i = 6 := by omega
          have HLAD := Aside0.mk (HLN.out HNO.out)
          go_wp2
          go_ret
          exact ⟨by rw [HLAD.out]; exact congrArg (fun x => Ending.returned (.string x)) bad_lit, below_step (below_step HBA.out HWE.out) HZ.out⟩
end Go.Proofs.YtibakeahgcakmaaGreatDoor
