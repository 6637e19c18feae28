/- ConsoleWrong: the walk. -/
import Derived.Test.YtibakeahgcakmaaGreatDoorZAwake
import Derived.Test.YtibakeahgcakmaaGreatDoorZRowKit
set_option linter.unusedVariables false
set_option linter.unusedSimpArgs false
namespace Go.Proofs.YtibakeahgcakmaaGreatDoor
open Go.Shelf Go.RowKit Go.Proofs.YtibakeahgcakmaaGreatDoorW.PrintWords Go.Proofs.YtibakeahgcakmaaGreatDoorW.PrintLast Go.Proofs.YtibakeahgcakmaaGreatDoorW.PrintMore PF Curve

theorem run_wrong (m : Nat) (hm : m < 13) (s : ByteArray) (hs : s.data.toList = [112, 108, 97, 99, 101, 32, 48, 10] ++ wrongs.getD m []) (w : World) (he : Env w) :
    Calls Tryz.prog 8 #[.string s] w fun e w' => e = .returned (.tuple #[.string ⟨#[48, 32, 48, 10, 101, 114, 114, 111, 114, 32, 50, 53, 48, 48, 10]⟩, .int .i64 0]) ∧ Below w.heap.size w w' := by
  have hl : wrongs.getD m [] ∈ wrongs := by
    rw [List.getD_eq_getElem?_getD, List.getElem?_eq_getElem (show m < wrongs.length from hm)]
    exact List.getElem_mem _
  refine run_says s _ ?_ ?_ w he
  · rw [hs, wrong_run _ hl]
  · have h1 : ∀ l ∈ wrongs, l.length ≤ 100 := by decide +kernel
    have h2 := h1 _ hl
    have h3 : s.data.toList.length = s.size := by simp
    rw [← h3, hs, List.length_append]
    simp only [List.length_cons, List.length_nil]
    omega
set_option maxHeartbeats 4000000 in
set_option maxRecDepth 100000 in
theorem wrong_calls (x : Int) (w : World) (he : Env w) : Calls Tryz.prog 5 #[.int .i64 x] w fun e w' => e = .returned (.bool true) ∧ Below w.heap.size w w' := by
  obtain ⟨m, hm, hq⟩ : ∃ m : Nat, m < 13 ∧ wrap64 ((IntKind.u64.wrap x).tmod 13) = (m : Int) := by
    have h0 : 0 ≤ IntKind.u64.wrap x := by rw [IntKind.wrap_u64]; omega
    rw [Int.tmod_eq_emod_of_nonneg h0]
    refine ⟨(IntKind.u64.wrap x % 13).toNat, by omega, ?_⟩
    rw [w64 _ (by omega) (by omega)]
    omega
  have HR := Aside0.mk (fun s hs w he => run_wrong m hm s hs w he)
  have hc : m = 0 ∨ m = 1 ∨ m = 2 ∨ m = 3 ∨ m = 4 ∨ m = 5 ∨ m = 6 ∨ m = 7 ∨ m = 8 ∨ m = 9 ∨ m = 10 ∨ m = 11 ∨ m = 12 := by omega
  rcases hc with rfl | rfl | rfl | rfl | rfl | rfl | rfl | rfl | rfl | rfl | rfl | rfl | rfl
  all_goals
    go_enter Tryz.func5, Tryz.ntmps5
    go_wp2_with (first
      | (go_at_call 10; (with_reducible refine (awake_calls _ he).mono ?_); rintro e w1 ⟨rfl, hb1⟩)
      | (go_at_call 8; refine (HR.out _ rfl _ (he.below (below_alloc hb1 _))).mono ?_; rintro e w2 ⟨rfl, hb2⟩; have hb3 := below_step (below_alloc hb1 _) hb2; clear hb2)
      | (go_at_call 9; (with_reducible refine (furlonglaw0_Num.calls 0 0 _ (num_eq 0)).mono ?_); rintro e w3 ⟨rfl, hdr⟩; have hb4 := below_step hb3 hdr.below; clear hdr))
    go_ret
    exact ⟨by simp, hb4⟩
end Go.Proofs.YtibakeahgcakmaaGreatDoor
/- ConsoleWrong: whatever the input, true; no condition. -/
set_option linter.unusedVariables false
set_option linter.unusedSimpArgs false
namespace Go.Proofs.YtibakeahgcakmaaGreatDoor
open Go.ChangeShapes Go.WideShapes Go.ChangeAt Go.RowKit

set_option maxRecDepth 100000 in
theorem wrong_lifted (os : Os) (started : os.Started) (H : Type) (enc : TypeId × Value → H) :
    ReturnsInHanded {} Tryz.checked os 5 .any (fun w args => (Rows.consoleWrongSpec.pre enc Tryz.prog Tryz.f5 [] false w args ∧ laidMetH Tryz.prog laidC w) ∧ sizedMet enc Tryz.prog Tryz.f5 (OpenSpec.ofChange Rows.consoleWrongSpec) false w args)
      (Rows.consoleWrongSpec.post enc Tryz.prog Tryz.f5 false true false false) := by
  refine handed_both (C := Tryz.checked) (X := fun w _ => laidMetH Tryz.prog laidC w) (fun _ _ _ hh h => h.of_heap hh) own started (by kernel_rfl) Tryz.func5
    (ChangeSpec.witness_shaped (enc := enc) (C := Tryz.checked) (os := os) (X := fun w _ => laidMetH Tryz.prog laidC w) false (World.laidAll Tryz.prog os laidC) #[.int .i64 0] 8 (World.laidAll_os _ _ _)
      (World.shaped_of_ZipB (by kernel_rfl) (by kernel_rfl)) (by kernel_rfl) (by kernel_rfl) (by kernel_rfl)
      (by rw [MakeChecks.laidMetH_plain _ _ _ (by kernel_rfl)]; exact laidMet_laidAll _ (by kernel_rfl) (by kernel_rfl))) ?_
  intro W base args ds gs before hval0 hW _ hL hsh
  have hval : ∀ (j : Nat) t v, Tryz.f5.params[j]? = some t → args[j]? = some v → Value.okWide Tryz.prog W .any base t v := hval0
  have hW' := hW
  obtain ⟨p, q, hA0, hV, rfl, _, _⟩ := hW
  have hA : DataW.TrodAll enc Tryz.prog W 0 (fun _ => true) true Tryz.f5.params.toList args.toList ds p := hA0
  rw [Tryz.params5] at hA hval
  obtain ⟨v0, d0, rfl, rfl, h0⟩ := trodAll_one hA
  obtain ⟨rfl, rfl⟩ := trodVars_none hV
  obtain ⟨x, rfl, rfl, rfl, wx⟩ := open_int Tryz.underlying3 (hval 0 3 v0 rfl rfl) h0
  simp only [List.append_nil] at hW'
  rw [MakeChecks.laidMetH_plain _ _ _ (by kernel_rfl)] at hL
  refine (wrong_calls x W (env_of hsh hL)).mono fun e W' ⟨he, hb⟩ => ?_
  subst he
  exact ⟨_, rfl, _, _, _, [], [], [], hW', trodAll_mk1 (shut_bool Tryz.underlying4 _), trodAll_mk1 (shut_int Tryz.underlying3 wx), rfl, hb.frame _, fun h => by cases h⟩

theorem consoleWrong_holds : Rows.ConsoleWrongSaid :=
  OpenClaim.holds_of_wide 5 Tryz.f5 rfl rfl rfl rfl rfl rfl rfl ⟨rfl, rfl, rfl, rfl, rfl⟩ rfl rfl rfl rfl rfl (by kernel_rfl) Tryz.func5 (by kernel_rfl)
    (of_decide_eq_true (by kernel_rfl)) (by unfold Func.isWrapper; first | (rw [if_pos (by decide +kernel)]; kernel_rfl) | (rw [if_neg (by decide +kernel)]; exact ⟨rfl, rfl⟩))
    (fun os started H enc _ => wrong_lifted os started H enc)
theorem consoleWrong_card : Rows.ConsoleWrongCardSaid :=
  Claim7.holds_tied_plain_at .later [] [.data, .data, .data, .data, .pinned] true (true, "c2548df86dce32f2f73d7b044e45a17cc8e8206fe5bc2191caf1f0c029a25616") false consoleWrong_holds (fun _ h => by cases h) (by kernel_rfl) (fun _ h => by cases h) consoleWrong_row_tie rfl ⟨rfl, rfl⟩ (by kernel_rfl) rfl
    (fun f fn hf hfn => by
      obtain rfl : f = 5 := Option.some.inj ((show Tryz.prog.funcNamed "furlong/furlonglaw25.ConsoleWrong" = some 5 by kernel_rfl).symm.trans hf) |>.symm
      obtain rfl : fn = Tryz.f5 := (Option.some.inj (Tryz.func5.symm.trans hfn)).symm
      exact ⟨by kernel_rfl, fun j t ht => by
        rw [Tryz.params5] at ht
        have hm : t ∈ [3] := by simpa using Array.mem_of_getElem? ht
        have hall : ([3].all fun u => !Tryz.prog.wantsStandIn u) = true := by kernel_rfl
        exact (show Tryz.prog.wantsStandIn t = false by simpa using List.all_eq_true.1 hall t hm)⟩)
    (by kernel_rfl)
#print axioms consoleWrong_card
end Go.Proofs.YtibakeahgcakmaaGreatDoor
