/- What the law's others answers: the walk. -/
import Derived.Test.YtibakeahgcakmaaGreatDoorURefO
import Derived.Test.YtibakeahgcakmaaGreatDoorURefP
import Derived.Test.YtibakeahgcakmaaGreatDoorURefM
import Derived.Test.YtibakeahgcakmaaGreatDoorUAwake
set_option linter.unusedVariables false
set_option linter.unusedSimpArgs false
namespace Go.Proofs.YtibakeahgcakmaaGreatDoor
open Go.Shelf Go.RowKit Go.Proofs.YtibakeahgcakmaaGreatDoorW.PrintWords Go.Proofs.YtibakeahgcakmaaGreatDoorW.PrintLast Go.Proofs.YtibakeahgcakmaaGreatDoorW.PrintMore PF Curve

theorem decimal_calls (n : Int) (h0 : 0 ≤ n) (h1 : n ≤ 9223372036854775807) (w : World) : Calls Tryz.prog 14 #[.int .i64 n] w fun e w' => e = .returned (.string (itoaB n)) ∧ Below w.heap.size w w' := by
  refine furlongref0_Decimal.calls 40 n (itoaB n) w ?_
  obtain ⟨m, rfl⟩ := Int.eq_ofNat_of_zero_le h0
  exact Decimal_eq m (by omega)
def curveT (x0 x1 : Int) : ByteArray := if okP x0 x1 then itoaB (enc x0 x1) else failedB 500
set_option maxHeartbeats 4000000 in
set_option maxRecDepth 100000 in
theorem refcurve_calls (ad : Addr) (c n : Nat) (x0 x1 : Int) (w : World) (hn : 2 ≤ n) (k0 : w.cell? ⟨ad.block, ad.off, none⟩ = some (.int .i64 x0)) (k1 : w.cell? ⟨ad.block, ad.off + 1, none⟩ = some (.int .i64 x1)) (had : ad.spot = none) :
    Calls Tryz.prog 24 #[.string curveW, .slice (some ad) n c] w fun e w' => e = .returned (.string (curveT x0 x1)) ∧ Below w.heap.size w w' := by
  have n0 : 0 < n := by omega
  have n1 : (1 : Int) < (n : Int) := by omega
  clear hn
  obtain ⟨g, o, sp⟩ := ad
  simp only at k0 k1 had
  subst had
  obtain ⟨r, hr⟩ : ∃ r, curveT x0 x1 = r := ⟨_, rfl⟩
  obtain ⟨d0, e0, hC, hfin⟩ : ∃ d e : Int, (∀ w, Calls Tryz.prog 13 #[.agg #[.int .i64 x0, .int .i64 x1]] w fun e' w' => e' = .returned (.tuple #[.int .i64 d, .int .i64 e]) ∧ Below w.heap.size w w') ∧ (e = 0 ∧ 0 ≤ d ∧ d ≤ 9223372036854775807 ∧ itoaB d = r ∨ e = 500 ∧ failedB 500 = r) := by
    have h := refEncode_eq 30 x0 x1 (by omega)
    unfold curveT at hr
    by_cases hok : okP x0 x1
    · rw [if_pos hok] at hr
      rw [if_pos (by exact hok)] at h
      have := enc_range x0 x1 hok.2.1 hok.2.2.2
      exact ⟨_, 0, fun w => furlongref1_Encode.calls 30 x0 x1 _ _ w h, .inl ⟨rfl, by omega, by omega, hr⟩⟩
    · rw [if_neg hok] at hr
      rw [if_neg (by exact hok)] at h
      exact ⟨_, 500, fun w => furlongref1_Encode.calls 30 x0 x1 _ _ w h, .inr ⟨rfl, hr⟩⟩
  rw [hr]
  clear hr
  have C := Aside0.mk hC
  clear hC
  go_enter Tryz.func24, Tryz.ntmps24
  go_upto_region 3 with (fail)
  go_region_held3 (fun w' => w'.cell? ⟨g, o, none⟩ = some (.int .i64 x0) ∧ w'.cell? ⟨g, o + 1, none⟩ = some (.int .i64 x1) ∧ Aside0 (Below w.heap.size w w'))
    (first | (go_split_ands; refine ⟨?_, ?_, ?_⟩ <;> first | assumption | exact pw_cell_below ‹_› ‹_› | exact ⟨below_step (Aside0.out ‹_›) ‹_›⟩ | exact ⟨below_drew (Below.refl _ _)⟩))
    (first | (go_at_call 13; go_split_ands; (with_reducible refine (C.out _).mono ?_); rintro e w' ⟨rfl, hb⟩))
  go_split_ands
  rename_i hz5
  rcases hfin with ⟨rfl, hd0, hd1, hr⟩ | ⟨rfl, hr⟩
  · go_wp2_with (go_at_call 14; (with_reducible refine (decimal_calls _ hd0 hd1 _).mono ?_); rintro e w2 ⟨rfl, hb⟩; replace hz5 := Aside0.mk (below_step hz5.out hb); clear hb)
    go_ret
    exact ⟨rfl, hz5.out⟩
  · go_wp2_with (go_at_call 35; (with_reducible refine (reffailed_calls 500 (by omega) (by omega) _).mono ?_); rintro e w2 ⟨rfl, hb⟩; replace hz5 := Aside0.mk (below_step hz5.out hb); clear hb)
    go_ret
    exact ⟨by first | rfl | (rw [← hr]; rfl), hz5.out⟩
def placeT (d : Int) : ByteArray := if d < 4294967296 then itoaB (((deh 16 d.toNat).1 * 65536 : Nat) : Int) ++ blankB ++ itoaB (((deh 16 d.toNat).2 * 65536 : Nat) : Int) else failedB 500
set_option maxHeartbeats 4000000 in
set_option maxRecDepth 100000 in
theorem refplace_calls (ad : Addr) (c n : Nat) (x0 : Int) (w : World) (hn : 1 ≤ n) (k0 : w.cell? ⟨ad.block, ad.off, none⟩ = some (.int .i64 x0)) (h0 : 0 ≤ x0) (had : ad.spot = none) :
    Calls Tryz.prog 24 #[.string placeW, .slice (some ad) n c] w fun e w' => e = .returned (.string (placeT x0)) ∧ Below w.heap.size w w' := by
  have n0 : 0 < n := by omega
  clear hn
  obtain ⟨g, o, sp⟩ := ad
  simp only at k0 had
  subst had
  have h := refDecode_eq x0 h0
  unfold placeT
  by_cases hok : x0 < 4294967296
  · rw [if_pos hok] at h ⊢
    have hl := deh_lt 16 x0.toNat (by show _ < 4294967296; omega)
    obtain ⟨T, hT⟩ : ∃ T, deh 16 x0.toNat = T := ⟨_, rfl⟩
    rw [hT] at hl h ⊢
    clear hT
    obtain ⟨X, hX⟩ : ∃ X : Int, ((T.1 * 65536 : Nat) : Int) = X := ⟨_, rfl⟩
    obtain ⟨Y, hY⟩ : ∃ Y : Int, ((T.2 * 65536 : Nat) : Int) = Y := ⟨_, rfl⟩
    have h1 : T.1 < 65536 := hl.1
    have h2 : T.2 < 65536 := hl.2
    rw [hX, hY] at h ⊢
    have hx : X ≤ 4294967296 := by omega
    have hy : Y ≤ 4294967296 := by omega
    have hx0 : 0 ≤ X := by omega
    have hy0 : 0 ≤ Y := by omega
    clear h1 h2 hX hY
    have D1 := Aside0.mk (decimal_calls X hx0 (by omega))
    have D2 := Aside0.mk (decimal_calls Y hy0 (by omega))
    have s1 := itoaB_size X (by omega) (by omega)
    have s2 := itoaB_size Y (by omega) (by omega)
    generalize itoaB X = TX at *
    generalize itoaB Y = TY at *
    clear hl hx hy hx0 hy0
    have z1 : ¬ 9223372036854775807 < TX.size + 1 := by omega
    have z2 : ¬ 9223372036854775807 < TX.size + 1 + TY.size := by omega
    have C := Aside0.mk (PH.furlongref1_Decode.calls 200 x0 X Y 0 w h)
    clear h
    go_enter Tryz.func24, Tryz.ntmps24
    go_upto_region 11 with (go_at_call 37; (with_reducible refine C.out.mono ?_); rintro e w1 ⟨rfl, hb⟩)
    have HB := below_alloc hb (.cells #[.int .i64 X, .int .i64 Y] 38)
    have BX := heap_alloc_new w1 (.cells #[.int .i64 X, .int .i64 Y] 38)
    clear hb k0
    generalize w1.alloc (.cells #[.int .i64 X, .int .i64 Y] 38) = wA at *
    generalize w1.heap.size = gp at *
    have q0 := Lib.cell_of_heap BX 0
    have q1 := Lib.cell_of_heap BX 1
    have HBA := Aside0.mk HB
    clear BX HB C
    go_region_held3 (fun w' => w'.cell? ⟨gp, 0, none⟩ = some (.int .i64 X) ∧ w'.cell? ⟨gp, 1, none⟩ = some (.int .i64 Y) ∧ Aside0 (Below wA.heap.size wA w'))
      (first | (go_split_ands; refine ⟨?_, ?_, ?_⟩ <;> first | assumption | exact pw_cell_below ‹_› ‹_› | exact ⟨below_step (Aside0.out ‹_›) ‹_›⟩ | exact ⟨below_drew (Below.refl _ _)⟩))
      (first | (go_at_call 14; go_split_ands; (first | (with_reducible refine (D1.out _).mono ?_) | (with_reducible refine (D2.out _).mono ?_)); rintro e w' ⟨rfl, hb⟩))
    go_split_ands
    rename_i hz5
    go_wp2
    go_ret
    exact ⟨rfl, below_step HBA.out hz5.out⟩
  · rw [if_neg hok] at h ⊢
    have C := Aside0.mk (PH.furlongref1_Decode.calls 200 x0 0 0 500 w h)
    clear h
    go_enter Tryz.func24, Tryz.ntmps24
    go_wp2_with (first
      | (go_at_call 37; (with_reducible refine C.out.mono ?_); rintro e w1 ⟨rfl, hb⟩)
      | (go_at_call 35; (with_reducible refine (reffailed_calls 500 (by omega) (by omega) _).mono ?_); rintro e w2 ⟨rfl, hb2⟩))
    go_ret
    exact ⟨rfl, below_step (below_alloc hb _) hb2⟩

/-! ### cover -/
def goodR (r : PG.S86) : Prop := 0 ≤ r.f0 ∧ r.f0 ≤ r.f1 ∧ r.f1 ≤ 4294967296
theorem addL_good (l : List PG.S86) (a b : Int) (h : ∀ r ∈ l, goodR r) (h0 : 0 ≤ a) (h1 : a ≤ b) (h2 : b ≤ 4294967296) : ∀ r ∈ addL l a b, goodR r := by
  intro r hr
  unfold addL at hr
  split at hr
  · rename_i hc
    rcases List.mem_or_eq_of_mem_set hr with hr | rfl
    · exact h r hr
    · have hm : PG.rd_T86 l ((l.length : Int) - 1) ∈ l := by
        unfold PG.rd_T86
        rw [show ((l.length : Int) - 1).toNat = l.length - 1 by omega, List.getD_eq_getElem?_getD, List.getElem?_eq_getElem (by omega)]
        exact List.getElem_mem _
      have := h _ hm
      unfold goodR at this ⊢
      simp only
      omega
  · rcases List.mem_append.1 hr with hr | hr
    · exact h r hr
    · obtain rfl := List.mem_singleton.1 hr
      exact ⟨h0, h1, h2⟩
theorem foldC_good (ds : List Int) : ∀ acc : List PG.S86, (∀ r ∈ acc, goodR r) → (∀ d ∈ ds, 0 ≤ d ∧ d ≤ 4095) → ∀ r ∈ ds.foldl (fun acc d => addL acc (d * 1048576) ((d + 1) * 1048576)) acc, goodR r := by
  induction ds with
  | nil => intro acc h _; exact h
  | cons d ds ih =>
    intro acc h hd
    have h1 := hd d (List.mem_cons_self ..)
    rw [List.foldl_cons]
    exact ih _ (addL_good acc _ _ h (by omega) (by omega) (by omega)) (fun x hx => hd x (List.mem_cons_of_mem _ hx))
theorem coverL_good (a b c d : Int) (h : boxOk a b c d) : ∀ r ∈ coverL a b c d, goodR r := by
  unfold boxOk at h
  unfold coverL foldC
  refine foldC_good _ [] (fun r hr => by simp at hr) (fun x hx => ?_)
  exact gridC_range _ _ _ _ (by omega) (by omega) x (List.mem_mergeSort.1 hx)
theorem sumC_good (l : List PG.S86) (h : ∀ r ∈ l, goodR r) : ∀ i : Nat, i ≤ l.length → l.length ≤ 100000 → 0 ≤ sumC (l.take i) ∧ sumC (l.take i) ≤ (i : Int) * 4294967296
  | 0, _, _ => by simp [sumC]
  | i + 1, hi, hl => by
    have ih := sumC_good l h i (by omega) hl
    have hlt : i < l.length := by omega
    rw [List.take_succ_eq_append_getElem hlt, sumC_snoc]
    have hg := h l[i] (List.getElem_mem hlt)
    unfold goodR at hg
    generalize l[i] = r at hg ⊢
    rw [w64 (r.f1 - r.f0) (by omega) (by omega), w64 _ (by omega) (by omega)]
    omega
theorem wrap_sum (a t f : Int) : wrap64 (wrap64 (a + t) - f) = wrap64 (a + wrap64 (t - f)) := by unfold wrap64; omega
def RefSays (a b c d : Int) (v1 : List PG.S86) (e1 : Int) : Prop :=
  ∀ W : World, Calls Tryz.prog 38 #[.agg #[.int .i64 a, .int .i64 b, .int .i64 c, .int .i64 d]] W fun e w' => ∃ A c', e = .returned (.tuple #[.slice A v1.length c', .int .i64 e1]) ∧ Kd.C PG.k86 w' A v1.length v1 ∧ Below W.heap.size W w'
theorem ref_says (a b c d : Int) : RefSays a b c d (if boxOk a b c d then coverL a b c d else []) (if boxOk a b c d then 0 else 600) := by
  intro W
  by_cases h : boxOk a b c d
  · rw [if_pos h, if_pos h]
    have h' := h
    unfold boxOk at h
    obtain ⟨a', rfl⟩ := Int.eq_ofNat_of_zero_le h.1
    obtain ⟨b', rfl⟩ := Int.eq_ofNat_of_zero_le h.2.2.1
    obtain ⟨c', rfl⟩ := Int.eq_ofNat_of_zero_le h.2.2.2.2.1
    obtain ⟨d', rfl⟩ := Int.eq_ofNat_of_zero_le h.2.2.2.2.2.2.1
    refine (refOf_good a' b' c' d' ((a' : Int) / 67108864).toNat ((b' : Int) / 67108864).toNat ((c' : Int) / 67108864).toNat ((d' : Int) / 67108864).toNat W (by omega) (by omega) (by omega) (by omega) (by omega) (by omega) (by omega) (by omega)).mono ?_
    rintro e w' ⟨v, rfl, hR, hb⟩
    obtain ⟨A, c2, rfl, _, hC⟩ := Kd.R_reads hR
    exact ⟨A, c2, rfl, hC, hb⟩
  · rw [if_neg h, if_neg h]
    refine (refOf_bad a b c d h W).mono ?_
    rintro e w' ⟨rfl, hb⟩
    exact ⟨none, 0, rfl, Kd.C_nil _ _, hb⟩
def coverT (a b c d : Int) : ByteArray := if boxOk a b c d then tellL (coverL a b c d) else failedB 600
set_option maxHeartbeats 4000000 in
set_option maxRecDepth 100000 in
theorem refcover_calls (ad : Addr) (c n : Nat) (x0 x1 x2 x3 : Int) (w : World) (hn : 4 ≤ n) (k0 : w.cell? ⟨ad.block, ad.off, none⟩ = some (.int .i64 x0)) (k1 : w.cell? ⟨ad.block, ad.off + 1, none⟩ = some (.int .i64 x1))
    (k2 : w.cell? ⟨ad.block, ad.off + 2, none⟩ = some (.int .i64 x2)) (k3 : w.cell? ⟨ad.block, ad.off + 3, none⟩ = some (.int .i64 x3)) (had : ad.spot = none) :
    Calls Tryz.prog 24 #[.string coverW, .slice (some ad) n c] w fun e w' => e = .returned (.string (coverT x0 x1 x2 x3)) ∧ Below w.heap.size w w' := by
  have n0 : 0 < n := by omega
  have n1 : (1 : Int) < (n : Int) := by omega
  have n2 : (2 : Int) < (n : Int) := by omega
  have n3 : (3 : Int) < (n : Int) := by omega
  clear hn
  obtain ⟨g, o, sp⟩ := ad
  simp only at k0 k1 k2 k3 had
  subst had
  obtain ⟨r, hr⟩ : ∃ r, coverT x0 x1 x2 x3 = r := ⟨_, rfl⟩
  obtain ⟨rs, e0, hC, hfin⟩ : ∃ (rs : List PG.S86) (e : Int), RefSays x0 x1 x2 x3 rs e ∧ (e = 0 ∧ rs.length ≤ 100000 ∧ (∀ q ∈ rs, goodR q) ∧ tellL rs = r ∨ e = 600 ∧ failedB 600 = r) := by
    have h := ref_says x0 x1 x2 x3
    unfold coverT at hr
    by_cases hok : boxOk x0 x1 x2 x3
    · rw [if_pos hok] at hr
      rw [if_pos hok, if_pos hok] at h
      exact ⟨_, _, h, .inl ⟨rfl, gridC_len2 _ _ _ _ hok, coverL_good _ _ _ _ hok, hr⟩⟩
    · rw [if_neg hok] at hr
      rw [if_neg hok, if_neg hok] at h
      exact ⟨_, _, h, .inr ⟨rfl, hr⟩⟩
  rw [hr]
  clear hr
  unfold RefSays at hC
  have C := Aside0.mk hC
  clear hC
  go_enter Tryz.func24, Tryz.ntmps24
  go_upto_region 13 with (fail)
  go_region_held3 (fun w' => w'.cell? ⟨g, o, none⟩ = some (.int .i64 x0) ∧ w'.cell? ⟨g, o + 1, none⟩ = some (.int .i64 x1) ∧ w'.cell? ⟨g, o + 2, none⟩ = some (.int .i64 x2) ∧ w'.cell? ⟨g, o + 3, none⟩ = some (.int .i64 x3) ∧ Aside0 (Below w.heap.size w w'))
    (first | (go_split_ands; refine ⟨?_, ?_, ?_, ?_, ?_⟩ <;> first | assumption | exact pw_cell_below ‹_› ‹_› | exact ⟨below_step (Aside0.out ‹_›) ‹_›⟩ | exact ⟨below_drew (Below.refl _ _)⟩))
    (first | (go_at_call 38; go_split_ands; (with_reducible refine (C.out _).mono ?_); rintro e w' ⟨Ar, cr, rfl, hK, hb⟩; have HCr := Aside0.mk hK; clear hK))
  go_split_ands
  rename_i hz5
  rcases hfin with ⟨rfl, hrl, hgood, hr⟩ | ⟨rfl, hr⟩
  · have HG := Aside0.mk (fun i hi => sumC_good rs hgood i hi hrl)
    have HRL := Aside0.mk hrl
    clear hgood hrl C k0 k1 k2 k3
    unfold tellL at hr
    go_wp2
    go_loopw [11, 12] (fun s11 s12 wz => ∃ i : Nat, i ≤ rs.length ∧ s12 = .int .i64 (i : Int) ∧ s11 = .int .i64 (sumC (rs.take i)) ∧ Aside0 (Below w'.heap.size w' wz)) (fun _ s12 _ => rs.length - (intOf s12).toNat)
    case atStart => exact ⟨0, by omega, rfl, rfl, ⟨Below.refl _ _⟩⟩
    case round =>
      obtain ⟨i, hi, rfl, rfl, hW⟩ := hrel
      have hrl := HRL.out
      by_cases hlt : i < rs.length
      · have hr2 := sumC_snoc (rs.take i) (PG.rd_T86 rs i)
        rw [← wrap_sum] at hr2
        obtain ⟨ad, ead, m0, m1⟩ := PG.at_T86 (Kd.C_below HCr.out hW.out) (i : Int) (by omega) (by omega)
        rw [Int.toNat_natCast] at m0 m1
        have htk : rs.take (i + 1) = rs.take i ++ [PG.rd_T86 rs i] := by
          rw [List.take_succ_eq_append_getElem hlt]; congr 2
          unfold PG.rd_T86; rw [Int.toNat_natCast, List.getD_eq_getElem?_getD, List.getElem?_eq_getElem hlt]; rfl
        rw [← htk] at hr2
        have HR2 := Aside0.mk hr2
        clear hr2 htk
        subst ead
        have i0 : (0 : Int) ≤ (i : Int) := by omega
        have i1 : (i : Int) < (rs.length : Int) := by omega
        have HWA := hW
        go_upto_region 20 with (fail)
        go_region_held3 (fun w' => w'.cell? (ad.add (i * 2)) = some (.int .i64 (PG.rd_T86 rs (i : Int)).f0) ∧ w'.cell? ⟨(ad.add (i * 2)).block, (ad.add (i * 2)).off + 1, none⟩ = some (.int .i64 (PG.rd_T86 rs (i : Int)).f1) ∧ Aside0 (Below wr.heap.size wr w'))
          (first | (go_split_ands; refine ⟨?_, ?_, ?_⟩ <;> first | assumption | exact pw_cell_below ‹_› ‹_› | exact ⟨below_step (Aside0.out ‹_›) ‹_›⟩ | exact ⟨below_drew (Below.refl _ _)⟩))
          (first | fail)
        go_wp2
        refine ⟨⟨i + 1, by omega, by go_num, by rw [HR2.out]; simp only [i64_w], ⟨below_step HWA.out (below_drew (Below.refl _ _))⟩⟩, ?_⟩
        simp [intOf]; omega
      · obtain rfl : i = rs.length := by omega
        have hz2 : Below w.heap.size w wr := below_step hz5.out hW.out
        rw [List.take_length]
        have hs := HG.out rs.length (by omega)
        rw [List.take_length] at hs
        have D1 := Aside0.mk (decimal_calls (rs.length : Int) (by omega) (by omega))
        have D2 := Aside0.mk (decimal_calls (sumC rs) hs.1 (by omega))
        have sx := itoaB_size (rs.length : Int) (by omega) (by omega)
        have sy := itoaB_size (sumC rs) (by omega) (by omega)
        have q1 : ¬ 9223372036854775807 < (itoaB (rs.length : Int)).size + 1 := by omega
        have q2 : ¬ 9223372036854775807 < (itoaB (rs.length : Int)).size + 1 + (itoaB (sumC rs)).size := by omega
        have HZ := Aside0.mk hz2
        clear hz2 hs
        go_wp2_with (go_at_call 14; (first | (with_reducible refine (D1.out _).mono ?_) | (with_reducible refine (D2.out _).mono ?_)); rintro e w' ⟨rfl, hb⟩; replace HZ := Aside0.mk (below_step HZ.out hb); clear hb)
        go_ret
        exact ⟨by first | rfl | (rw [← hr]; rfl), HZ.out⟩
  · go_wp2_with (go_at_call 35; (with_reducible refine (reffailed_calls 600 (by omega) (by omega) _).mono ?_); rintro e w2 ⟨rfl, hb⟩; replace hz5 := Aside0.mk (below_step hz5.out hb); clear hb)
    go_ret
    exact ⟨by first | rfl | (rw [← hr]; rfl), hz5.out⟩

/-! ### owner -/
def ownerT (x0 x1 : Int) : ByteArray := if x0 < 1 ∨ 8 < x0 then failedB 700 else if 4294967296 ≤ x1 then failedB 700 else itoaB (rd (ownersL x0) (atI (startsL x0) x1))
set_option maxHeartbeats 4000000 in
set_option maxRecDepth 100000 in
theorem refowner_bad (ad : Addr) (c n : Nat) (x0 : Int) (w : World) (hn : 2 ≤ n) (k0 : w.cell? ⟨ad.block, ad.off, none⟩ = some (.int .i64 x0)) (had : ad.spot = none) (hx : x0 < 1 ∨ 8 < x0) :
    Calls Tryz.prog 24 #[.string ownerW, .slice (some ad) n c] w fun e w' => e = .returned (.string (failedB 700)) ∧ Below w.heap.size w w' := by
  have n0 : 0 < n := by omega
  clear hn
  obtain ⟨g, o, sp⟩ := ad
  simp only at k0 had
  subst had
  have C := Aside0.mk (PH.furlongref1_First.calls 30 x0 0 [] [] 700 w (refFirst_bad x0 hx))
  go_enter Tryz.func24, Tryz.ntmps24
  go_wp2_with (first
    | (go_at_call 39; (with_reducible refine C.out.mono ?_); rintro e w1 ⟨v1, v2, rfl, hr1, hr2, hb1⟩; obtain ⟨A1, c1, rfl⟩ := Kd.R_slice hr1; obtain ⟨A2, c2, rfl⟩ := Kd.R_slice hr2)
    | (go_at_call 35; (with_reducible refine (reffailed_calls 700 (by omega) (by omega) _).mono ?_); rintro e w2 ⟨rfl, hb2⟩))
  go_ret
  exact ⟨rfl, below_step (below_alloc hb1 _) hb2⟩
set_option maxHeartbeats 4000000 in
set_option maxRecDepth 100000 in
theorem refowner_ok (ad : Addr) (c n : Nat) (x0 x1 : Int) (w : World) (hn : 2 ≤ n) (k0 : w.cell? ⟨ad.block, ad.off, none⟩ = some (.int .i64 x0)) (k1 : w.cell? ⟨ad.block, ad.off + 1, none⟩ = some (.int .i64 x1)) (had : ad.spot = none)
    (hb0 : 1 ≤ x0) (hb1 : x0 ≤ 8) (hd0 : 0 ≤ x1) :
    Calls Tryz.prog 24 #[.string ownerW, .slice (some ad) n c] w fun e w' => e = .returned (.string (ownerT x0 x1)) ∧ Below w.heap.size w w' := by
  have n0 : 0 < n := by omega
  have n1 : (1 : Int) < (n : Int) := by omega
  clear hn
  obtain ⟨g, o, sp⟩ := ad
  simp only at k0 k1 had
  subst had
  have hf := (refFirst_ok x0 hb0 hb1).1
  have ho := refOwner_eq x0 x1 hb0 hb1 hd0
  obtain ⟨_, _, _, hls, hlo⟩ := first_eq x0 hb0 hb1
  have hmo := ownerR_rd x0 (atI (startsL x0) x1) ⟨hb0, hb1⟩
  obtain ⟨r, hr⟩ : ∃ r, ownerT x0 x1 = r := ⟨_, rfl⟩
  rw [hr]
  unfold ownerT at hr
  rw [if_neg (by omega)] at hr
  obtain ⟨ro, e0, hO, hfin⟩ : ∃ ro e : Int, PH.furlongref1_Owner.f 60 1 (startsL x0) (ownersL x0) x1 = some (ro, e) ∧ (e = 0 ∧ 0 ≤ ro ∧ ro ≤ 9223372036854775807 ∧ itoaB ro = r ∨ e = 700 ∧ failedB 700 = r) := by
    by_cases hbig : 4294967296 ≤ x1
    · rw [if_pos hbig] at hr ho
      exact ⟨_, _, ho, .inr ⟨rfl, hr⟩⟩
    · rw [if_neg hbig] at hr ho
      exact ⟨_, _, ho, .inl ⟨rfl, hmo.1, by omega, hr⟩⟩
  clear hr ho hmo
  have cF := PH.furlongref1_First.calls 30 x0 1 (startsL x0) (ownersL x0) 0 w hf
  clear hf
  generalize startsL x0 = S at *
  generalize ownersL x0 = O at *
  have hlO : 0 < O.length := by omega
  have hlS : 0 < S.length := by omega
  clear hls hlo hb0 hb1
  have hcall : ∀ (g1 c1 g2 c2 : Nat) (W : World), Kd.C (Kd.int .i64) W (some ⟨g1, 0, none⟩) S.length S → Kd.C (Kd.int .i64) W (some ⟨g2, 0, none⟩) O.length O → S.length ≤ c1 → O.length ≤ c2 →
      Calls Tryz.prog 40 #[.agg #[.int .i64 1, .slice (some ⟨g1, 0, none⟩) S.length c1, .slice (some ⟨g2, 0, none⟩) O.length c2], .int .i64 x1] W fun e w' => e = .returned (.tuple #[.int .i64 ro, .int .i64 e0]) ∧ Below W.heap.size W w' :=
    fun g1 c1 g2 c2 W h1 h2 h3 h4 => PH.furlongref1_Owner.calls 60 1 _ c1 S _ c2 O x1 ro e0 W h1 h3 h2 h4 hO
  have HC := Aside0.mk hcall
  have HF := Aside0.mk cF
  clear hcall cF hO
  go_enter Tryz.func24, Tryz.ntmps24
  go_upto_region 25 with (go_at_call 39; (with_reducible refine HF.out.mono ?_); rintro e w1 ⟨v1, v2, rfl, hr1, hr2, hb1⟩; obtain ⟨g1, c1, rfl, _, hg1, _⟩ := Kd.R_form hr1 hlS; obtain ⟨g2, c2, rfl, _, hg2, _⟩ := Kd.R_form hr2 hlO)
  obtain ⟨_, l1, m1⟩ := Kd.R_reads' hr1
  obtain ⟨_, l2, m2⟩ := Kd.R_reads' hr2
  have hA : Below w.heap.size w (w1.alloc (.cells #[.int .i64 1, .slice (some ⟨g1, 0, none⟩) S.length c1, .slice (some ⟨g2, 0, none⟩) O.length c2] 88)) := below_alloc hb1 _
  have m1' := Kd.C_alloc m1 (.cells #[.int .i64 1, .slice (some ⟨g1, 0, none⟩) S.length c1, .slice (some ⟨g2, 0, none⟩) O.length c2] 88)
  have m2' := Kd.C_alloc m2 (.cells #[.int .i64 1, .slice (some ⟨g1, 0, none⟩) S.length c1, .slice (some ⟨g2, 0, none⟩) O.length c2] 88)
  have BX := heap_alloc_new w1 (.cells #[.int .i64 1, .slice (some ⟨g1, 0, none⟩) S.length c1, .slice (some ⟨g2, 0, none⟩) O.length c2] 88)
  clear hr1 hr2 m1 m2
  have q3 := pw_cell_below hA k1
  generalize w1.alloc (.cells #[.int .i64 1, .slice (some ⟨g1, 0, none⟩) S.length c1, .slice (some ⟨g2, 0, none⟩) O.length c2] 88) = wA at hA m1' m2' BX q3 ⊢
  generalize w1.heap.size = gm at *
  have q0 := Lib.cell_of_heap BX 0
  have q1 := Lib.cell_of_heap BX 1
  have q2 := Lib.cell_of_heap BX 2
  clear BX
  go_region_held3 (fun w' => w'.cell? ⟨gm, 0, none⟩ = some (.int .i64 1) ∧ w'.cell? ⟨gm, 1, none⟩ = some (.slice (some ⟨g1, 0, none⟩) S.length c1) ∧ w'.cell? ⟨gm, 2, none⟩ = some (.slice (some ⟨g2, 0, none⟩) O.length c2) ∧ w'.cell? ⟨g, o + 1, none⟩ = some (.int .i64 x1) ∧ Aside0 (Below wA.heap.size wA w'))
    (first | (go_split_ands; refine ⟨?_, ?_, ?_, ?_, ?_⟩ <;> first | assumption | exact pw_cell_below ‹_› ‹_› | exact ⟨below_step (Aside0.out ‹_›) ‹_›⟩ | exact ⟨below_drew (Below.refl _ _)⟩))
    (first
      | (go_at_call 40; go_split_ands; (with_reducible refine (HC.out g1 c1 g2 c2 _ (Kd.C_below m1' (Aside0.out ‹_›)) (Kd.C_below m2' (Aside0.out ‹_›)) l1 l2).mono ?_); rintro e w' ⟨rfl, hb⟩))
  go_split_ands
  rename_i hz
  have hz' := Aside0.mk (below_step hA (Aside0.out hz))
  rcases hfin with ⟨rfl, hd0', hd1', hr⟩ | ⟨rfl, hr⟩
  · go_wp2_with (go_at_call 14; (with_reducible refine (decimal_calls ro hd0' hd1' _).mono ?_); rintro e w3 ⟨rfl, hb3⟩)
    go_ret
    exact ⟨by first | rfl | (rw [← hr]; rfl), below_step hz'.out hb3⟩
  · go_wp2_with (go_at_call 35; (with_reducible refine (reffailed_calls 700 (by omega) (by omega) _).mono ?_); rintro e w3 ⟨rfl, hb3⟩)
    go_ret
    exact ⟨by first | rfl | (rw [← hr]; rfl), below_step hz'.out hb3⟩
end Go.Proofs.YtibakeahgcakmaaGreatDoor
