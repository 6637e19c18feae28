/- awake: the walk. -/
import Derived.Test.YtibakeahgcakmaaGreatDoorVEval
set_option linter.unusedVariables false
set_option linter.unusedSimpArgs false
namespace Go.Proofs.YtibakeahgcakmaaGreatDoor
open Go.Shelf Go.RowKit Go.Proofs.YtibakeahgcakmaaGreatDoorW.PrintWords Go.Proofs.YtibakeahgcakmaaGreatDoorW.PrintLast Go.Proofs.YtibakeahgcakmaaGreatDoorW.PrintMore PF Curve

theorem run_says (s : ByteArray) (out : ByteArray) (ho : runL s.data.toList = out.data.toList) (hs : s.size ≤ 65536) (w : World) (he : Env w) :
    Calls Tryz.prog 8 #[.string s] w fun e w' => e = .returned (.tuple #[.string out, .int .i64 0]) ∧ Below w.heap.size w w' := by
  have h := run_calls s hs w he
  rw [ho] at h
  exact h
theorem run_awake (w : World) (he : Env w) :
    Calls Tryz.prog 8 #[.string ⟨#[116, 117, 114, 110, 32, 48, 32, 48, 32, 49, 48, 32, 48, 32, 48, 32, 49, 48, 10, 35, 32, 120, 10, 10, 99, 114, 111, 115, 115, 32, 48, 32, 48, 32, 57, 32, 57, 32, 48, 32, 57, 32, 57, 32, 48, 10, 102, 114, 111, 98, 10, 99, 117, 114, 118, 101, 32, 48, 32, 52, 50, 57, 52, 57, 54, 55, 50, 57, 53, 10, 112, 108, 97, 99, 101, 32, 48, 10, 99, 111, 118, 101, 114, 32, 48, 32, 48, 32, 48, 32, 48, 10, 111, 119, 110, 101, 114, 32, 50, 32, 48, 10, 116, 117, 114, 110, 32, 48, 32, 48, 32, 48, 32, 48, 32, 48, 32, 52, 50, 57, 52, 57, 54, 55, 50, 57, 54]⟩] w fun e w' =>
      e = .returned (.tuple #[.string ((⟨#[108, 101, 102, 116, 10, 121, 101, 115, 10, 101, 114, 114, 111, 114, 32, 50, 53, 48, 48, 10]⟩ : ByteArray) ++ itoaB (enc 0 4294967295) ++ (⟨#[10, 48, 32, 48, 10, 49, 32, 49, 48, 52, 56, 53, 55, 54, 10, 48, 10, 101, 114, 114, 111, 114, 32, 51, 48, 48, 10]⟩ : ByteArray)), .int .i64 0]) ∧ Below w.heap.size w w' := by
  refine run_says _ _ ?_ (by decide +kernel) w he
  refine Eq.trans (show runL [116, 117, 114, 110, 32, 48, 32, 48, 32, 49, 48, 32, 48, 32, 48, 32, 49, 48, 10, 35, 32, 120, 10, 10, 99, 114, 111, 115, 115, 32, 48, 32, 48, 32, 57, 32, 57, 32, 48, 32, 57, 32, 57, 32, 48, 10, 102, 114, 111, 98, 10, 99, 117, 114, 118, 101, 32, 48, 32, 52, 50, 57, 52, 57, 54, 55, 50, 57, 53, 10, 112, 108, 97, 99, 101, 32, 48, 10, 99, 111, 118, 101, 114, 32, 48, 32, 48, 32, 48, 32, 48, 10, 111, 119, 110, 101, 114, 32, 50, 32, 48, 10, 116, 117, 114, 110, 32, 48, 32, 48, 32, 48, 32, 48, 32, 48, 32, 52, 50, 57, 52, 57, 54, 55, 50, 57, 54] = runL awakeL from rfl) (awake_run.trans ?_)
  rw [ByteArray.data_append, ByteArray.data_append, Array.toList_append, Array.toList_append, List.append_assoc]
theorem first_eq2 : furlonglaw25_first.f 30 = some (enc 0 4294967295) := by
  unfold furlonglaw25_first.f
  rw [refEncode_eq 30 0 4294967295 (by omega), if_pos (by omega)]
  rfl
theorem num_eq (e : Int) : furlonglaw0_Num.f e = some e := rfl
theorem enc_dec (x y : Int) (hx : x ≤ 4294967295) (hy : y ≤ 4294967295) : furlongref0_Decimal.f 40 (enc x y) = some (itoaB (enc x y)) := by
  have h := enc_range x y hx hy
  obtain ⟨n, hn⟩ := Int.eq_ofNat_of_zero_le h.1
  rw [hn]
  exact Decimal_eq n (by omega)
set_option maxHeartbeats 4000000 in
set_option maxRecDepth 100000 in
theorem awake_calls (w : World) (he : Env w) : Calls Tryz.prog 10 #[] w fun e w' => e = .returned (.bool true) ∧ Below w.heap.size w w' := by
  have hr := enc_range 0 4294967295 (by omega) (by omega)
  have hsz := itoaB_size (enc 0 4294967295) (by omega) (by omega)
  have hf := first_eq2
  have hd := enc_dec 0 4294967295 (by omega) (by omega)
  have HR := Aside0.mk (fun w he => run_awake w he)
  generalize enc 0 4294967295 = E at *
  generalize itoaB E = D at *
  clear hr
  have HF := Aside0.mk hf
  have HD := Aside0.mk hd
  clear hf hd
  go_enter Tryz.func10, Tryz.ntmps10
  go_wp2_with (first
    | (go_at_call 8; (with_reducible refine (HR.out _ he).mono ?_); rintro e w1 ⟨rfl, hb1⟩)
    | (go_at_call 9; (with_reducible refine (furlonglaw0_Num.calls 0 0 _ (num_eq 0)).mono ?_); rintro e w2 ⟨rfl, hdr⟩; have hb2 := below_step hb1 hdr.below; clear hdr)
    | (go_at_call 21; (with_reducible refine (furlonglaw25_first.calls 30 E _ HF.out).mono ?_); rintro e w3 ⟨rfl, hb3⟩)
    | (go_at_call 14; (with_reducible refine (furlongref0_Decimal.calls 40 E D _ HD.out).mono ?_); rintro e w4 ⟨rfl, hb4⟩))
  go_ret
  exact ⟨by simp, below_step hb2 (below_step hb3 hb4)⟩
end Go.Proofs.YtibakeahgcakmaaGreatDoor
