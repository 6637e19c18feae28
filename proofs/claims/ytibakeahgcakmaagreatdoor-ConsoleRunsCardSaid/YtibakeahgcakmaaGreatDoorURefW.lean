/- ConsoleBegins: the walk. -/
import Derived.Test.YtibakeahgcakmaaGreatDoorUAwake
import Derived.Test.YtibakeahgcakmaaGreatDoorURefV
set_option linter.unusedVariables false
set_option linter.unusedSimpArgs false
namespace Go.Proofs.YtibakeahgcakmaaGreatDoor
open Go.Shelf Go.RowKit Go.Proofs.YtibakeahgcakmaaGreatDoorW.PrintWords Go.Proofs.YtibakeahgcakmaaGreatDoorW.PrintLast Go.Proofs.YtibakeahgcakmaaGreatDoorW.PrintMore PF Curve

theorem ln_app : ∀ (l r cur : List UInt8), ln (l ++ 10 :: r) cur = ln l cur ++ ln r []
  | [], r, cur => by simp [ln]
  | c :: t, r, cur => by
    rw [List.cons_append, ln, ln]
    by_cases h : c = 10
    · rw [if_pos h, if_pos h, ln_app t r []]; rfl
    · rw [if_neg h, if_neg h, ln_app t r _]
theorem runL_app (l r : List UInt8) : runL (l ++ 10 :: r) = runL l ++ runL r := by
  unfold runL; rw [ln_app, List.flatMap_append]
theorem runL_nil : runL [] = [] := by
  show lineL [] ++ [] = []
  rw [aw_empty]; rfl
/-- What Run answers, at any text. -/
def runS (s : ByteArray) : ByteArray × Int := if s.size ≤ 65536 then (⟨(runL s.data.toList).toArray⟩, 0) else (⟨#[]⟩, 2501)
theorem run_any (s : ByteArray) (hs : s.size ≤ 9000000000000000000) (w : World) (he : Env w) :
    Calls Tryz.prog 8 #[.string s] w fun e w' => e = .returned (.tuple #[.string (runS s).1, .int .i64 (runS s).2]) ∧ Below w.heap.size w w' := by
  unfold runS
  by_cases h : s.size ≤ 65536
  · rw [if_pos h]; exact run_calls s h w he
  · rw [if_neg h]; exact run_long s (by omega) hs w
end Go.Proofs.YtibakeahgcakmaaGreatDoor
/- ConsoleRuns: the walk. -/
set_option linter.unusedVariables false
set_option linter.unusedSimpArgs false
namespace Go.Proofs.YtibakeahgcakmaaGreatDoor
open Go.Shelf Go.RowKit Go.Proofs.YtibakeahgcakmaaGreatDoorW.PrintWords Go.Proofs.YtibakeahgcakmaaGreatDoorW.PrintLast Go.Proofs.YtibakeahgcakmaaGreatDoorW.PrintMore PF Curve

/-! ### the reference's reading of a script, line by line -/
theorem runL_seg (l : List UInt8) (h : ∀ y ∈ l, y ≠ 10) : runL l = lineL l := by
  unfold runL
  have := ln_free l [] [] h
  rw [List.append_nil] at this
  rw [this]
  simp [ln]
/-- At place i of l, the line at hand begun at f, what is told so far. -/
def RInv (l : List UInt8) (i f : Nat) (want : List UInt8) : Prop :=
  (i ≤ l.length ∧ f ≤ i ∧ (∀ y ∈ (l.drop f).take (i - f), y ≠ 10) ∧ want ++ runL (l.drop f) = runL l) ∨ (i = l.length + 1 ∧ want = runL l)
theorem rinv_start (l : List UInt8) : RInv l 0 0 [] := .inl ⟨by omega, by omega, by simp, by simp⟩
theorem rinv_at {l : List UInt8} {i f : Nat} {want : List UInt8} (h : RInv l i f want) (hi : i ≤ l.length) : f ≤ i ∧ (∀ y ∈ (l.drop f).take (i - f), y ≠ 10) ∧ want ++ runL (l.drop f) = runL l := by
  rcases h with h | h
  · exact h.2
  · omega
theorem rinv_len {l : List UInt8} {i f : Nat} {want : List UInt8} (h : RInv l i f want) : want.length ≤ (l.length + 1) * 301 := by
  have h1 := flat_len (ln l [])
  have h2 := (ln_len l []).1
  have h3 : (runL l).length ≤ (l.length + 1) * 301 := Nat.le_trans h1 (Nat.mul_le_mul_right _ h2)
  have h4 : want.length ≤ (runL l).length := by
    rcases h with h | h
    · rw [← h.2.2.2, List.length_append]; omega
    · rw [h.2]; exact Nat.le_refl _
  omega
theorem grow_take (l : List UInt8) (f i : Nat) (hf : f ≤ i) (hi : i < l.length) : (l.drop f).take (i + 1 - f) = (l.drop f).take (i - f) ++ [l[i]] := by
  rw [show i + 1 - f = (i - f) + 1 by omega, List.take_add_one]
  congr 1
  rw [List.getElem?_drop, show f + (i - f) = i by omega, List.getElem?_eq_getElem hi]; rfl
/-- A byte that ends no line. -/
theorem rinv_go {l : List UInt8} {i f : Nat} {want : List UInt8} (h : RInv l i f want) (hi : i < l.length) (h10 : l[i] ≠ 10) : RInv l (i + 1) f want := by
  obtain ⟨h1, h2, h3⟩ := rinv_at h (by omega)
  refine .inl ⟨by omega, by omega, fun y hy => ?_, h3⟩
  rw [grow_take l f i h1 hi] at hy
  rcases List.mem_append.1 hy with hy | hy
  · exact h2 y hy
  · rw [List.mem_singleton.1 hy]; exact h10
/-- A line's end. -/
theorem rinv_line {l : List UInt8} {i f : Nat} {want : List UInt8} (h : RInv l i f want) (hi : i < l.length) (h10 : l[i] = 10) : RInv l (i + 1) (i + 1) (want ++ lineL ((l.drop f).take (i - f))) := by
  obtain ⟨h1, h2, h3⟩ := rinv_at h (by omega)
  refine .inl ⟨by omega, by omega, by simp, ?_⟩
  have e : l.drop f = (l.drop f).take (i - f) ++ 10 :: l.drop (i + 1) := by
    conv => lhs; rw [← List.take_append_drop (i - f) (l.drop f)]
    rw [List.drop_drop, show f + (i - f) = i by omega, List.drop_eq_getElem_cons hi, h10]
  rw [← h3]
  conv => rhs; rw [e, runL_app, runL_seg _ h2]
  rw [List.append_assoc]
/-- The end, no line at hand. -/
theorem rinv_end {l : List UInt8} {i f : Nat} {want : List UInt8} (h : RInv l i f want) (hi : i = l.length) (hf : f = l.length) (f' : Nat) : RInv l (i + 1) f' want := by
  obtain ⟨h1, h2, h3⟩ := rinv_at h (by omega)
  refine .inr ⟨by omega, ?_⟩
  rw [← h3, List.drop_eq_nil_of_le (by omega), runL_nil, List.append_nil]
/-- The end, a line at hand. -/
theorem rinv_last {l : List UInt8} {i f : Nat} {want : List UInt8} (h : RInv l i f want) (hi : i = l.length) (f' : Nat) : RInv l (i + 1) f' (want ++ lineL ((l.drop f).take (i - f))) := by
  obtain ⟨h1, h2, h3⟩ := rinv_at h (by omega)
  refine .inr ⟨by omega, ?_⟩
  have e : (l.drop f).take (i - f) = l.drop f := List.take_of_length_le (by simp; omega)
  rw [e] at h2 ⊢
  rw [← runL_seg _ h2, h3]
def bI (l : List UInt8) : List Int := l.map fun c => (c.toNat : Int)
theorem strNums_bI (l : List UInt8) : strOfNums (bI l) = ⟨l.toArray⟩ := by
  unfold strOfNums bI
  rw [List.map_map]
  have : ((fun n : Int => UInt8.ofNat n.toNat) ∘ fun b : UInt8 => (b.toNat : Int)) = id := by funext b; simp
  rw [this, List.map_id]
/-- Why the reference reads on, or stops: the line's words. -/
theorem seg_words (s : ByteArray) (hs : s.size ≤ 65536) (f i : Nat) (h : f ≤ i) (hi : i ≤ s.size) : PH.furlonglaw25_words.f 200000 (s.extract f i) = some ((fl ((s.data.toList.drop f).take (i - f)) []).map mkW) := by
  have hd : (s.extract f i).data.toList = (s.data.toList.drop f).take (i - f) := Lib.extract_data ..
  rw [← hd]
  refine refwords_eq _ ?_
  have : (s.extract f i).size = (s.extract f i).data.toList.length := (data_length _).symm
  rw [this, hd, List.length_take, List.length_drop]
  have : s.data.toList.length = s.size := by simp
  omega
set_option maxHeartbeats 8000000 in
set_option maxRecDepth 100000 in
theorem runs_long (s : ByteArray) (hs : 65536 < s.size) (hs2 : s.size ≤ 9000000000000000000) (w : World) (he : Env w) : Calls Tryz.prog 3 #[.string s] w fun e w' => e = .returned (.bool true) ∧ Below w.heap.size w w' := by
  have C := Aside0.mk (run_any s hs2)
  have e : runS s = (⟨#[]⟩, 2501) := if_neg (by omega)
  rw [e] at C
  clear e
  have h1 : (65536 : Int) < (s.size : Int) := by omega
  go_enter Tryz.func3, Tryz.ntmps3
  go_wp2_with (first
    | (go_at_call 8; (with_reducible refine (C.out _ he).mono ?_); rintro e w1 ⟨rfl, hb1⟩)
    | (go_at_call 9; (with_reducible refine (furlonglaw0_Num.calls 2501 2501 _ (num_eq 2501)).mono ?_); rintro e w4 ⟨rfl, hdr⟩; have hb4 := below_step hb1 hdr.below; clear hdr)
    | (go_at_call 10; (with_reducible refine (awake_calls _ (he.below hb4)).mono ?_); rintro e w5 ⟨rfl, hb5⟩))
  go_ret
  exact ⟨by simp, below_step hb4 hb5⟩
theorem words_yes (x wd : ByteArray) (rest : List ByteArray) (h : PH.furlonglaw25_words.f 200000 x = some (wd :: rest)) (w : World) : Calls Tryz.prog 11 #[.string x] w fun e w' =>
    ∃ g c, e = .returned (.slice (some ⟨g, 0, none⟩) (rest.length + 1) c) ∧ g < w'.heap.size ∧ w'.cell? ⟨g, 0, none⟩ = some (.string wd) ∧ (∀ i s, rest[i]? = some s → w'.cell? ⟨g, 1 + i, none⟩ = some (.string s)) ∧ Below w.heap.size w w' := by
  refine (PH.furlonglaw25_words.calls 200000 x _ w h).mono ?_
  rintro e w' ⟨v0, rfl, hR, hb⟩
  obtain ⟨g, c, rfl, _, hg, _⟩ := Kd.R_form hR (Nat.succ_pos _)
  obtain ⟨_, hc, hK⟩ := Kd.R_reads' hR
  have k : ∀ (i : Nat) s, (wd :: rest)[i]? = some s → w'.cell? ⟨g, i, none⟩ = some (.string s) := by
    intro i s hs
    have hi := (List.getElem?_eq_some_iff.1 hs).1
    obtain ⟨ad, e, hq⟩ := Kd.at_string hK (i : Int) (by omega) (by omega)
    cases e
    rw [add_plain, Int.toNat_natCast] at hq
    rw [hq]
    unfold rdOf
    rw [Int.toNat_natCast, List.getD_eq_getElem?_getD, hs]; rfl
  exact ⟨g, c, rfl, hg, k 0 wd rfl, fun i s hs => by rw [Nat.add_comm]; exact k (i + 1) s hs, hb⟩
theorem info5 : (Tryz.prog.info? 5).map (fun i => (i.zero, i.size, i.bytes)) = some (some (.int .u8 0), 1, 1) := by kernel_rfl
set_option maxHeartbeats 8000000 in
set_option maxRecDepth 100000 in
theorem runs_short (s : ByteArray) (hs : s.size ≤ 65536) (w : World) (he : Env w) : Calls Tryz.prog 3 #[.string s] w fun e w' => e = .returned (.bool true) ∧ Below w.heap.size w w' := by
  have C := Aside0.mk (run_any s (by omega))
  have e : runS s = (⟨(runL s.data.toList).toArray⟩, 0) := if_pos hs
  rw [e] at C
  clear e
  have hl : s.data.toList.length = s.size := data_length s
  have h1 : ¬ (65536 : Int) < (s.size : Int) := by omega
  have HS := Aside0.mk hs
  go_enter Tryz.func3, Tryz.ntmps3
  go_upto_region 4 with (go_at_call 8; (with_reducible refine (C.out _ he).mono ?_); rintro e w1 ⟨rfl, hb1⟩)
  have HB1 := Aside0.mk hb1
  clear hb1 C
  go_wp2
  go_loopw [5, 6, 7] (fun s5 s6 s7 wr => ∃ (i f : Nat) (want : List UInt8), i ≤ s.size + 1 ∧ s7 = .int .i64 (i : Int) ∧ s6 = .int .i64 (f : Int) ∧ Aside0 (RInv s.data.toList i f want) ∧ Aside0 (Kd.R (Kd.int .u8) 5 wr w1.heap.size (fun _ => True) s5 (bI want)) ∧ Aside0 (Below w1.heap.size w1 wr)) (fun _ _ s7 _ => s.size + 2 - (intOf s7).toNat)
  case atStart => exact ⟨0, 0, [], by omega, rfl, rfl, ⟨rinv_start _⟩, ⟨Kd.R_nil _ _ _ _ _⟩, ⟨Below.refl _ _⟩⟩
  case round =>
    obtain ⟨i, f, want, hi, rfl, rfl, HI, HR, HW⟩ := hrel
    have hil : ∀ h : i < s.size, s[i]'h = s.data.toList[i]'(by omega) := fun h => rfl
    have hcase : (∃ h : i < s.size, s.data.toList[i]'(by omega) ≠ 10) ∨ (i = s.size ∧ f = s.size) ∨ ((∃ h : i < s.size, s.data.toList[i]'(by omega) = 10) ∨ (i = s.size ∧ f ≠ s.size)) ∨ i = s.size + 1 := by
      by_cases hlt : i < s.size
      · by_cases h10 : s.data.toList[i]'(by omega) = 10
        · exact .inr (.inr (.inl (.inl ⟨hlt, h10⟩)))
        · exact .inl ⟨hlt, h10⟩
      · by_cases h2 : i = s.size
        · by_cases h3 : f = s.size
          · exact .inr (.inl ⟨h2, h3⟩)
          · exact .inr (.inr (.inl (.inr ⟨h2, h3⟩)))
        · exact .inr (.inr (.inr (by omega)))
    rcases hcase with ⟨hlt, h10⟩ | ⟨h2, h3⟩ | hline | h2
    · have hlt' : (i : Int) < (s.size : Int) := by omega
      have hle' : (i : Int) ≤ (s.size : Int) := by omega
      have hq : (((s[i]'hlt).toNat : Int) != 10) = true := by
        rw [hil hlt, bne_iff_ne]
        intro e
        exact h10 (UInt8.toNat_inj.1 (by show _ = 10; omega))
      have HI2 := Aside0.mk (rinv_go HI.out (by omega) h10)
      clear h10 hil
      go_wp2
      refine ⟨⟨i + 1, f, want, by omega, by go_num, rfl, HI2, HR, HW⟩, ?_⟩
      simp [intOf]; omega
    · have HI2 := Aside0.mk (rinv_end HI.out (by omega) (by omega) f)
      subst h2
      subst h3
      clear hil
      go_wp2
      refine ⟨⟨s.size + 1, s.size, want, by omega, by go_num, rfl, HI2, HR, HW⟩, ?_⟩
      simp [intOf]
    · have HIL : Aside0 (RInv s.data.toList (i + 1) (i + 1) (want ++ lineL ((s.data.toList.drop f).take (i - f)))) := ⟨by
        rcases hline with ⟨hlt, h10⟩ | ⟨h2, h3⟩
        · exact rinv_line HI.out (by omega) h10
        · exact rinv_last HI.out (by omega) _⟩
      have hle : i ≤ s.size := by rcases hline with ⟨hlt, _⟩ | ⟨h2, _⟩ <;> omega
      have hfi := (rinv_at HI.out (by omega)).1
      have HWL := Aside0.mk (rinv_len HIL.out)
      have HWD := Aside0.mk (seg_words s hs f i hfi hle)
      have hLL : lineL ((s.data.toList.drop f).take (i - f)) = lineW ((fl ((s.data.toList.drop f).take (i - f)) []).map mkW) := rfl
      have hne : ∀ x ∈ (fl ((s.data.toList.drop f).take (i - f)) []).map mkW, ∃ c t, x.data.toList = c :: t := by
        intro x hx
        obtain ⟨y, hy, rfl⟩ := List.mem_map.1 hx
        have := fl_ne _ _ y hy
        cases y with
        | nil => exact absurd rfl this
        | cons c t => exact ⟨c, t, rfl⟩
      have hwl : ((fl ((s.data.toList.drop f).take (i - f)) []).map mkW).length ≤ 65537 := by
        rw [List.length_map]
        have h1 := fl_len ((s.data.toList.drop f).take (i - f)) []
        rw [List.length_take, List.length_drop] at h1
        omega
      rw [hLL] at HIL HWL
      clear hLL
      generalize (fl ((s.data.toList.drop f).take (i - f)) []).map mkW = ws at *
      have HNE := Aside0.mk hne
      have HWSL := Aside0.mk hwl
      clear hne hwl HI
      have hle' : (i : Int) ≤ (s.size : Int) := by omega
      have hfi' : (f : Int) ≤ (i : Int) := by omega
      have hil' := hil
      clear hil
      have hsub : (∃ h : i < s.size, (((s[i]'h).toNat : Int) != 10) = false) ∨ (i = s.size ∧ f ≠ s.size) := by
        rcases hline with ⟨hlt, h10⟩ | h
        · exact .inl ⟨hlt, by rw [hil' hlt, h10]; rfl⟩
        · exact .inr h
      clear hline hil'
      rcases hsub with ⟨hlt, hq⟩ | ⟨h2, h3⟩
      all_goals
        first
        | (have hlt' : (i : Int) < (s.size : Int) := by omega
           go_upto_region 10 with (fail))
        | (have h4 : ¬ (i : Int) < (s.size : Int) := by omega
           have h4' : ¬ i < s.size := by omega
           have h5 : ((i : Int) == (s.size : Int)) = true := by rw [beq_iff_eq]; omega
           have h3' : ((f : Int) == (i : Int)) = false := by rw [beq_eq_false_iff_ne]; omega
           clear h2 h3
           go_upto_region 10 with (fail))
      all_goals
        cases ws with
        | nil =>
          have HIL2 : Aside0 (RInv s.data.toList (i + 1) (i + 1) want) := ⟨by have := HIL.out; rw [show lineW [] = [] from rfl, List.append_nil] at this; exact this⟩
          go_wp2_with (go_at_call 11; (with_reducible refine (PH.furlonglaw25_words.calls 200000 _ [] _ HWD.out).mono ?_); rintro e w3 ⟨v0, rfl, hR3, hb3⟩; obtain ⟨A3, c3, rfl⟩ := Kd.R_slice hR3)
          refine ⟨⟨i + 1, i + 1, want, by omega, by go_num, by go_num, HIL2, ⟨Kd.R_below HR.out hb3⟩, ⟨below_then HW.out HW.out.size hb3⟩⟩, ?_⟩
          simp [intOf]; omega
        | cons wd rest =>
          obtain ⟨c, tl, hct⟩ := HNE.out wd (List.mem_cons_self ..)
          have hz : 0 < wd.size := by have : wd.data.toList.length = wd.size := data_length wd
                                      rw [hct, List.length_cons] at this; omega
          have hc0 : wd[0]'hz = c := by
            have : wd.data.toList[0]? = some c := by rw [hct]; rfl
            rw [List.getElem?_eq_getElem (by simpa using hz)] at this
            exact Option.some.inj this
          have hrl : rest.length ≤ 100000 := by have := HWSL.out; simp only [List.length_cons] at this; omega
          have HRL := Aside0.mk hrl
          by_cases h35 : c = 35
          · have hq35 : (((wd[0]'hz).toNat : Int) != 35) = false := by rw [hc0]; exact byte35_eq c h35
            have hlw : lineW (wd :: rest) = [] := if_pos (by rw [hct, h35]; rfl)
            have HIL2 : Aside0 (RInv s.data.toList (i + 1) (i + 1) want) := ⟨by have := HIL.out; rw [hlw, List.append_nil] at this; exact this⟩
            clear hlw hc0 hct hrl h35
            go_wp2_with (go_at_call 11; (with_reducible refine (words_yes _ wd rest HWD.out _).mono ?_); rintro e w3 ⟨g3, c3, rfl, hg3, hk3, hks3, hb3⟩)
            refine ⟨⟨i + 1, i + 1, want, by omega, by go_num, by go_num, HIL2, ⟨Kd.R_below HR.out hb3⟩, ⟨below_then HW.out HW.out.size hb3⟩⟩, ?_⟩
            simp [intOf]; omega
          · have hq35 : (((wd[0]'hz).toNat : Int) != 35) = true := by rw [hc0]; exact byte35_ne c h35
            have hlw : lineW (wd :: rest) = (lineB (wd :: rest)).data.toList ++ [10] := if_neg (by rw [hct]; simpa using h35)
            have HIL2 := HIL.out
            rw [hlw] at HIL2
            have HIL3 := Aside0.mk HIL2
            have HLEN : Aside0 ((bI want).length + (lineB (wd :: rest)).size + 1 ≤ 100000000) := ⟨by
              have h1 := HWL.out
              rw [hlw, List.length_append, List.length_append, data_length] at h1
              simp only [List.length_cons, List.length_nil] at h1
              unfold bI; rw [List.length_map]; omega⟩
            have T := Aside0.mk (fun g c W (h1 : g < W.heap.size) (h2 : W.cell? ⟨g, 0, none⟩ = some (.string wd)) (h3 : ∀ i s, rest[i]? = some s → W.cell? ⟨g, 1 + i, none⟩ = some (.string s)) => told_calls g c wd rest W h1 h2 h3 HRL.out)
            clear HIL2 hlw hc0 hct hrl h35
            generalize lineB (wd :: rest) = LB at *
            go_wp2_with (first
              | (go_at_call 11; (with_reducible refine (words_yes _ wd rest HWD.out _).mono ?_); rintro e w3 ⟨g3, c3, rfl, hg3, hk3, hks3, hb3⟩; have KS3 := Aside0.mk hks3; clear hks3)
              | (go_at_call 12; (with_reducible refine (T.out g3 c3 _ hg3 hk3 KS3.out).mono ?_); rintro e w4 ⟨rfl, hb4⟩; have hR4 := Aside0.mk (Kd.R_below (Kd.R_below HR.out hb3) hb4); have hW4 := Aside0.mk (below_then (below_then HW.out HW.out.size hb3) (below_then HW.out HW.out.size hb3).size hb4))
              | (at_builtin; refine print_append_str (w0 := w1) w1.heap.size rfl (.tmp 69) (.tmp 71) 27 9 5 rfl Tryz.underlying27 Tryz.underlying9 info5 _ (bI want) LB rfl rfl (Kd.own_of_R hR4.out) hW4.out hW4.out.size (by have := HLEN.out; omega) ?_; intro v5 w5 hown5 hb5 hg5)
              | (at_builtin; refine Kd.R_append (Kd.int .u8) (w0 := w1) w1.heap.size rfl (.tmp 73) (.tmp 74) 27 5 (.int .u8 0) 1 rfl Tryz.underlying27 info5 rfl (by decide) (by omega) _ (bI want ++ bytesOf LB) 10 [.int .u8 10] (fun _ => True) (fun _ => False) rfl rfl rfl (fun _ hk => hk.elim) (fun _ _ => trivial) (Kd.R_of_own hown5 (fun _ _ => trivial)) hb5 hb5.size (by rw [List.length_append, bytesOf_length]; have := HLEN.out; omega) ?_; intro v6 w6 hr6 hb6 hg6 hat6))
            have hR7 : Aside0 (Kd.R (Kd.int .u8) 5 w6 w1.heap.size (fun _ => True) v6 (bI (want ++ (LB.data.toList ++ [10])))) := ⟨by
              have e : bI (want ++ (LB.data.toList ++ [10])) = bI want ++ bytesOf LB ++ [10] := by
                unfold bI bytesOf; rw [List.map_append, List.map_append, List.append_assoc]; rfl
              rw [e]; exact hr6⟩
            refine ⟨⟨i + 1, i + 1, want ++ (LB.data.toList ++ [10]), by omega, by go_num, by go_num, HIL3, hR7, ⟨hb6⟩⟩, ?_⟩
            simp [intOf]; omega
    · have hwant : want = runL s.data.toList := by
        rcases HI.out with h | h
        · omega
        · exact h.2
      subst h2
      have h3 : ¬ ((s.size : Int) + 1 ≤ (s.size : Int)) := by omega
      obtain ⟨A5, c5, rfl, hc5, hK5⟩ := Kd.R_reads HR.out
      have HK5 := Aside0.mk hK5
      have HBw := Aside0.mk (below_step HB1.out HW.out : Below w.heap.size w wr)
      clear HI HR HW hil hK5
      rw [← hwant]
      have hconv : Aside0 (∀ W, Below wr.heap.size wr W → (convert 27 9 (.slice A5 (bI want).length c5)).run Tryz.prog W = .ok (.string ⟨want.toArray⟩) W) := ⟨fun W hW => by
        rw [← strNums_bI want]
        exact Kd.C_string Tryz.underlying27 Tryz.underlying5 Tryz.underlying9 (Kd.C_below HK5.out hW)⟩
      clear hwant
      generalize (⟨want.toArray⟩ : ByteArray) = out at *
      go_wp2_with (first
        | (go_at_call 9; (with_reducible refine (furlonglaw0_Num.calls 0 0 _ (num_eq 0)).mono ?_); rintro e w4 ⟨rfl, hdr⟩; have hcv := hconv.out w4 hdr.below; have hb4 := below_step HBw.out hdr.below; clear hdr)
        | (go_at_call 10; (with_reducible refine (awake_calls _ (he.below hb4)).mono ?_); rintro e w5 ⟨rfl, hb5⟩))
      go_ret
      exact ⟨rfl, below_step hb4 hb5⟩
theorem runs_calls (s : ByteArray) (hs2 : s.size ≤ 9000000000000000000) (w : World) (he : Env w) : Calls Tryz.prog 3 #[.string s] w fun e w' => e = .returned (.bool true) ∧ Below w.heap.size w w' := by
  by_cases hs : s.size ≤ 65536
  · exact runs_short s hs w he
  · exact runs_long s (by omega) hs2 w he
end Go.Proofs.YtibakeahgcakmaaGreatDoor
