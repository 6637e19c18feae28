/- Scripts that are given: what they tell. -/
import Derived.Test.YtibakeahgcakmaaGreatDoorURun
import Derived.Test.YtibakeahgcakmaaGreatDoorUDec
set_option linter.unusedVariables false
set_option linter.unusedSimpArgs false
namespace Go.Proofs.YtibakeahgcakmaaGreatDoor
open Go.Shelf Go.RowKit Go.Proofs.YtibakeahgcakmaaGreatDoorW.PrintWords Go.Proofs.YtibakeahgcakmaaGreatDoorW.PrintLast Go.Proofs.YtibakeahgcakmaaGreatDoorW.PrintMore PF Curve

def mkB (x : List UInt8) : ByteArray := ⟨x.toArray⟩
theorem lineB_eq (w : ByteArray) (rest : List ByteArray) : lineB (w :: rest) = if isCmd w rest.length = true then
      (match numsL rest with
       | none => failedB 2500
       | some xs => if (doesR w xs).2 = 0 then (doesR w xs).1 else failedB (doesR w xs).2)
    else failedB 2500 := rfl
theorem lineW_eq (w : ByteArray) (rest : List ByteArray) : lineW (w :: rest) = if w.data.toList.head? = some 35 then [] else (lineB (w :: rest)).data.toList ++ [10] := rfl
theorem lineL_ok (l : List UInt8) (w : ByteArray) (rest : List ByteArray) (xs : List Int) (out : ByteArray) (hf : (fl l []).map mkB = w :: rest) (h35 : w.data.toList.head? ≠ some 35) (hc : isCmd w rest.length = true)
    (hn : numsL rest = some xs) (hd : doesR w xs = (out, 0)) : lineL l = out.data.toList ++ [10] := by
  have hb : lineB (w :: rest) = out := by
    rw [lineB_eq, if_pos hc, hn]; simp only [hd]; rfl
  show lineW ((fl l []).map mkB) = _
  rw [hf, lineW_eq, if_neg h35, hb]
theorem lineL_err (l : List UInt8) (w : ByteArray) (rest : List ByteArray) (xs : List Int) (out : ByteArray) (e : Int) (hf : (fl l []).map mkB = w :: rest) (h35 : w.data.toList.head? ≠ some 35) (hc : isCmd w rest.length = true)
    (hn : numsL rest = some xs) (hd : doesR w xs = (out, e)) (he : e ≠ 0) : lineL l = (failedB e).data.toList ++ [10] := by
  have hb : lineB (w :: rest) = failedB e := by
    rw [lineB_eq, if_pos hc, hn]; simp only [hd]; rw [if_neg he]
  show lineW ((fl l []).map mkB) = _
  rw [hf, lineW_eq, if_neg h35, hb]
theorem lineL_bad (l : List UInt8) (w : ByteArray) (rest : List ByteArray) (hf : (fl l []).map mkB = w :: rest) (h35 : w.data.toList.head? ≠ some 35) (hc : isCmd w rest.length = false ∨ numsL rest = none) : lineL l = (failedB 2500).data.toList ++ [10] := by
  have hb : lineB (w :: rest) = failedB 2500 := by
    rw [lineB_eq]
    rcases hc with hc | hc
    · rw [if_neg (by rw [hc]; decide)]
    · rw [hc]; split <;> rfl
  show lineW ((fl l []).map mkB) = _
  rw [hf, lineW_eq, if_neg h35, hb]
theorem lineL_none (l : List UInt8) (hf : fl l [] = []) : lineL l = [] := by
  unfold lineL; rw [hf]; rfl
theorem lineL_rem (l : List UInt8) (w : ByteArray) (rest : List ByteArray) (hf : (fl l []).map mkB = w :: rest) (h35 : w.data.toList.head? = some 35) : lineL l = [] := by
  show lineW ((fl l []).map mkB) = _
  rw [hf]
  exact if_pos h35
theorem itoa_lit (n : Nat) (l : List UInt8) (h : n < 10 ^ 20) (e : txt n = l) : itoaB (n : Int) = ⟨l.toArray⟩ := by rw [itoaB_txt n h, e]

theorem itoa_0 : itoaB 0 = ⟨#[48]⟩ := itoa_lit 0 _ (by decide) (by decide +kernel)
theorem itoa_1 : itoaB 1 = ⟨#[49]⟩ := itoa_lit 1 _ (by decide) (by decide +kernel)
theorem itoa_300 : itoaB 300 = ⟨#[51, 48, 48]⟩ := itoa_lit 300 _ (by decide) (by decide +kernel)
theorem itoa_1048576 : itoaB 1048576 = ⟨#[49, 48, 52, 56, 53, 55, 54]⟩ := itoa_lit 1048576 _ (by decide) (by decide +kernel)
theorem itoa_2500 : itoaB 2500 = ⟨#[50, 53, 48, 48]⟩ := itoa_lit 2500 _ (by decide) (by decide +kernel)
theorem failed_300 : (failedB 300).data.toList = [101, 114, 114, 111, 114, 32, 51, 48, 48] := by unfold failedB; rw [itoa_300]; rfl
theorem failed_2500 : (failedB 2500).data.toList = [101, 114, 114, 111, 114, 32, 50, 53, 48, 48] := by unfold failedB; rw [itoa_2500]; rfl
theorem aw_turn : lineL [116, 117, 114, 110, 32, 48, 32, 48, 32, 49, 48, 32, 48, 32, 48, 32, 49, 48] = [108, 101, 102, 116, 10] := by
  have hd : doesR turnW [0, 0, 10, 0, 0, 10] = (leftB, 0) := by decide +kernel
  rw [lineL_ok [116, 117, 114, 110, 32, 48, 32, 48, 32, 49, 48, 32, 48, 32, 48, 32, 49, 48] turnW [(⟨#[48]⟩ : ByteArray), (⟨#[48]⟩ : ByteArray), (⟨#[49, 48]⟩ : ByteArray), (⟨#[48]⟩ : ByteArray), (⟨#[48]⟩ : ByteArray), (⟨#[49, 48]⟩ : ByteArray)] [0, 0, 10, 0, 0, 10] leftB (by decide +kernel) (by decide +kernel) (by decide +kernel) (by decide +kernel) hd]
  rfl
theorem aw_cross : lineL [99, 114, 111, 115, 115, 32, 48, 32, 48, 32, 57, 32, 57, 32, 48, 32, 57, 32, 57, 32, 48] = [121, 101, 115, 10] := by
  have hd : doesR crossW [0, 0, 9, 9, 0, 9, 9, 0] = (yesB, 0) := by decide +kernel
  rw [lineL_ok [99, 114, 111, 115, 115, 32, 48, 32, 48, 32, 57, 32, 57, 32, 48, 32, 57, 32, 57, 32, 48] crossW [(⟨#[48]⟩ : ByteArray), (⟨#[48]⟩ : ByteArray), (⟨#[57]⟩ : ByteArray), (⟨#[57]⟩ : ByteArray), (⟨#[48]⟩ : ByteArray), (⟨#[57]⟩ : ByteArray), (⟨#[57]⟩ : ByteArray), (⟨#[48]⟩ : ByteArray)] [0, 0, 9, 9, 0, 9, 9, 0] yesB (by decide +kernel) (by decide +kernel) (by decide +kernel) (by decide +kernel) hd]
  rfl
theorem aw_curve : lineL [99, 117, 114, 118, 101, 32, 48, 32, 52, 50, 57, 52, 57, 54, 55, 50, 57, 53] = (itoaB (enc 0 4294967295)).data.toList ++ [10] := by
  have hd : doesR curveW [0, 4294967295] = ((itoaB (enc 0 4294967295)), 0) := by unfold doesR; rw [if_neg (by decide +kernel), if_neg (by decide +kernel), if_pos (by decide +kernel)]; unfold curveR; rw [if_pos (by decide +kernel)]; rfl
  rw [lineL_ok [99, 117, 114, 118, 101, 32, 48, 32, 52, 50, 57, 52, 57, 54, 55, 50, 57, 53] curveW [(⟨#[48]⟩ : ByteArray), (⟨#[52, 50, 57, 52, 57, 54, 55, 50, 57, 53]⟩ : ByteArray)] [0, 4294967295] (itoaB (enc 0 4294967295)) (by decide +kernel) (by decide +kernel) (by decide +kernel) (by decide +kernel) hd]
theorem aw_place : lineL [112, 108, 97, 99, 101, 32, 48] = [48, 32, 48, 10] := by
  have hd : doesR placeW [0] = ((itoaB 0 ++ blankB ++ itoaB 0), 0) := by rfl
  rw [lineL_ok [112, 108, 97, 99, 101, 32, 48] placeW [(⟨#[48]⟩ : ByteArray)] [0] (itoaB 0 ++ blankB ++ itoaB 0) (by decide +kernel) (by decide +kernel) (by decide +kernel) (by decide +kernel) hd]
  rw [itoa_0]; rfl
theorem aw_owner : lineL [111, 119, 110, 101, 114, 32, 50, 32, 48] = [48, 10] := by
  have hd : doesR ownerW [2, 0] = ((itoaB 0), 0) := by rfl
  rw [lineL_ok [111, 119, 110, 101, 114, 32, 50, 32, 48] ownerW [(⟨#[50]⟩ : ByteArray), (⟨#[48]⟩ : ByteArray)] [2, 0] (itoaB 0) (by decide +kernel) (by decide +kernel) (by decide +kernel) (by decide +kernel) hd]
  rw [itoa_0]; rfl
theorem cover_0 : coverL 0 0 0 0 = [⟨0, 1048576⟩] := by
  have hg : gridC 0 0 1 1 = [0] := by decide +kernel
  show foldC (srt (gridC 0 0 1 1)) = _
  rw [hg]
  unfold srt
  rw [List.mergeSort_singleton]
  rfl
theorem aw_cover : lineL [99, 111, 118, 101, 114, 32, 48, 32, 48, 32, 48, 32, 48] = [49, 32, 49, 48, 52, 56, 53, 55, 54, 10] := by
  have hd : doesR coverW [0, 0, 0, 0] = ((itoaB 1 ++ blankB ++ itoaB 1048576), 0) := by show (tellL (coverL 0 0 0 0), (0 : Int)) = _; rw [cover_0]; unfold tellL; rw [show sumC [⟨0, 1048576⟩] = 1048576 by decide +kernel]; rfl
  rw [lineL_ok [99, 111, 118, 101, 114, 32, 48, 32, 48, 32, 48, 32, 48] coverW [(⟨#[48]⟩ : ByteArray), (⟨#[48]⟩ : ByteArray), (⟨#[48]⟩ : ByteArray), (⟨#[48]⟩ : ByteArray)] [0, 0, 0, 0] (itoaB 1 ++ blankB ++ itoaB 1048576) (by decide +kernel) (by decide +kernel) (by decide +kernel) (by decide +kernel) hd]
  rw [itoa_1, itoa_1048576]; rfl
theorem aw_turn2 : lineL [116, 117, 114, 110, 32, 48, 32, 48, 32, 48, 32, 48, 32, 48, 32, 52, 50, 57, 52, 57, 54, 55, 50, 57, 54] = [101, 114, 114, 111, 114, 32, 51, 48, 48, 10] := by
  rw [lineL_err [116, 117, 114, 110, 32, 48, 32, 48, 32, 48, 32, 48, 32, 48, 32, 52, 50, 57, 52, 57, 54, 55, 50, 57, 54] turnW [(⟨#[48]⟩ : ByteArray), (⟨#[48]⟩ : ByteArray), (⟨#[48]⟩ : ByteArray), (⟨#[48]⟩ : ByteArray), (⟨#[48]⟩ : ByteArray), (⟨#[52, 50, 57, 52, 57, 54, 55, 50, 57, 54]⟩ : ByteArray)] [0, 0, 0, 0, 0, 4294967296] (turnB 0) 300 (by decide +kernel) (by decide +kernel) (by decide +kernel) (by decide +kernel) (by decide +kernel) (by decide), failed_300]
  rfl
theorem aw_frob : lineL [102, 114, 111, 98] = [101, 114, 114, 111, 114, 32, 50, 53, 48, 48, 10] := by
  rw [lineL_bad [102, 114, 111, 98] (⟨#[102, 114, 111, 98]⟩ : ByteArray) [] (by decide +kernel) (by decide +kernel) (.inl (by decide +kernel)), failed_2500]
  rfl
theorem aw_rem : lineL [35, 32, 120] = [] := lineL_rem _ (⟨#[35]⟩ : ByteArray) [(⟨#[120]⟩ : ByteArray)] (by decide +kernel) (by decide +kernel)
theorem aw_empty : lineL [] = [] := lineL_none _ rfl
def awakeL : List UInt8 := [116, 117, 114, 110, 32, 48, 32, 48, 32, 49, 48, 32, 48, 32, 48, 32, 49, 48, 10, 35, 32, 120, 10, 10, 99, 114, 111, 115, 115, 32, 48, 32, 48, 32, 57, 32, 57, 32, 48, 32, 57, 32, 57, 32, 48, 10, 102, 114, 111, 98, 10, 99, 117, 114, 118, 101, 32, 48, 32, 52, 50, 57, 52, 57, 54, 55, 50, 57, 53, 10, 112, 108, 97, 99, 101, 32, 48, 10, 99, 111, 118, 101, 114, 32, 48, 32, 48, 32, 48, 32, 48, 10, 111, 119, 110, 101, 114, 32, 50, 32, 48, 10, 116, 117, 114, 110, 32, 48, 32, 48, 32, 48, 32, 48, 32, 48, 32, 52, 50, 57, 52, 57, 54, 55, 50, 57, 54]
theorem awake_run : runL awakeL = [108, 101, 102, 116, 10, 121, 101, 115, 10, 101, 114, 114, 111, 114, 32, 50, 53, 48, 48, 10] ++ ((itoaB (enc 0 4294967295)).data.toList ++ [10, 48, 32, 48, 10, 49, 32, 49, 48, 52, 56, 53, 55, 54, 10, 48, 10, 101, 114, 114, 111, 114, 32, 51, 48, 48, 10]) := by
  have hl : ln awakeL [] = [[116, 117, 114, 110, 32, 48, 32, 48, 32, 49, 48, 32, 48, 32, 48, 32, 49, 48], [35, 32, 120], [], [99, 114, 111, 115, 115, 32, 48, 32, 48, 32, 57, 32, 57, 32, 48, 32, 57, 32, 57, 32, 48], [102, 114, 111, 98], [99, 117, 114, 118, 101, 32, 48, 32, 52, 50, 57, 52, 57, 54, 55, 50, 57, 53], [112, 108, 97, 99, 101, 32, 48], [99, 111, 118, 101, 114, 32, 48, 32, 48, 32, 48, 32, 48], [111, 119, 110, 101, 114, 32, 50, 32, 48], [116, 117, 114, 110, 32, 48, 32, 48, 32, 48, 32, 48, 32, 48, 32, 52, 50, 57, 52, 57, 54, 55, 50, 57, 54]] := by decide +kernel
  unfold runL
  rw [hl]
  simp only [List.flatMap_cons, List.flatMap_nil, aw_turn, aw_rem, aw_empty, aw_cross, aw_frob, aw_curve, aw_place, aw_cover, aw_owner, aw_turn2]
  simp only [List.append_nil, List.nil_append, List.append_assoc, List.cons_append]
/-! The wrong lines. -/
end Go.Proofs.YtibakeahgcakmaaGreatDoor
/- awake: the walk. -/
set_option linter.unusedVariables false
set_option linter.unusedSimpArgs false
namespace Go.Proofs.YtibakeahgcakmaaGreatDoor
open Go.Shelf Go.RowKit Go.Proofs.YtibakeahgcakmaaGreatDoorW.PrintWords Go.Proofs.YtibakeahgcakmaaGreatDoorW.PrintLast Go.Proofs.YtibakeahgcakmaaGreatDoorW.PrintMore PF Curve

theorem run_says (s : ByteArray) (out : ByteArray) (ho : runL s.data.toList = out.data.toList) (hs : s.size ≤ 65536) (w : World) (he : Env w) :
    Calls Tryz.prog 8 #[.string s] w fun e w' => e = .returned (.tuple #[.string out, .int .i64 0]) ∧ Below w.heap.size w w' := by
  have h := run_calls s hs w he
  rw [ho] at h
  exact h
theorem run_awake (w : World) (he : Env w) :
    Calls Tryz.prog 8 #[.string ⟨#[116, 117, 114, 110, 32, 48, 32, 48, 32, 49, 48, 32, 48, 32, 48, 32, 49, 48, 10, 35, 32, 120, 10, 10, 99, 114, 111, 115, 115, 32, 48, 32, 48, 32, 57, 32, 57, 32, 48, 32, 57, 32, 57, 32, 48, 10, 102, 114, 111, 98, 10, 99, 117, 114, 118, 101, 32, 48, 32, 52, 50, 57, 52, 57, 54, 55, 50, 57, 53, 10, 112, 108, 97, 99, 101, 32, 48, 10, 99, 111, 118, 101, 114, 32, 48, 32, 48, 32, 48, 32, 48, 10, 111, 119, 110, 101, 114, 32, 50, 32, 48, 10, 116, 117, 114, 110, 32, 48, 32, 48, 32, 48, 32, 48, 32, 48, 32, 52, 50, 57, 52, 57, 54, 55, 50, 57, 54]⟩] w fun e w' =>
      e = .returned (.tuple #[.string ((⟨#[108, 101, 102, 116, 10, 121, 101, 115, 10, 101, 114, 114, 111, 114, 32, 50, 53, 48, 48, 10]⟩ : ByteArray) ++ itoaB (enc 0 4294967295) ++ (⟨#[10, 48, 32, 48, 10, 49, 32, 49, 48, 52, 56, 53, 55, 54, 10, 48, 10, 101, 114, 114, 111, 114, 32, 51, 48, 48, 10]⟩ : ByteArray)), .int .i64 0]) ∧ Below w.heap.size w w' := by
  refine run_says _ _ ?_ (by decide +kernel) w he
  refine Eq.trans (show runL [116, 117, 114, 110, 32, 48, 32, 48, 32, 49, 48, 32, 48, 32, 48, 32, 49, 48, 10, 35, 32, 120, 10, 10, 99, 114, 111, 115, 115, 32, 48, 32, 48, 32, 57, 32, 57, 32, 48, 32, 57, 32, 57, 32, 48, 10, 102, 114, 111, 98, 10, 99, 117, 114, 118, 101, 32, 48, 32, 52, 50, 57, 52, 57, 54, 55, 50, 57, 53, 10, 112, 108, 97, 99, 101, 32, 48, 10, 99, 111, 118, 101, 114, 32, 48, 32, 48, 32, 48, 32, 48, 10, 111, 119, 110, 101, 114, 32, 50, 32, 48, 10, 116, 117, 114, 110, 32, 48, 32, 48, 32, 48, 32, 48, 32, 48, 32, 52, 50, 57, 52, 57, 54, 55, 50, 57, 54] = runL awakeL from rfl) (awake_run.trans ?_)
  rw [ByteArray.data_append, ByteArray.data_append, Array.toList_append, Array.toList_append, List.append_assoc]
theorem first_eq2 : furlonglaw25_first.f 30 = some (enc 0 4294967295) := by
  unfold furlonglaw25_first.f
  rw [refEncode_eq 30 0 4294967295 (by omega), if_pos (by omega)]
  rfl
theorem num_eq (e : Int) : furlonglaw0_Num.f e = some e := rfl
theorem enc_dec (x y : Int) (hx : x ≤ 4294967295) (hy : y ≤ 4294967295) : furlongref0_Decimal.f 40 (enc x y) = some (itoaB (enc x y)) := by
  have h := enc_range x y hx hy
  obtain ⟨n, hn⟩ := Int.eq_ofNat_of_zero_le h.1
  rw [hn]
  exact Decimal_eq n (by omega)
set_option maxHeartbeats 4000000 in
set_option maxRecDepth 100000 in
theorem awake_calls (w : World) (he : Env w) : Calls Tryz.prog 10 #[] w fun e w' => e = .returned (.bool true) ∧ Below w.heap.size w w' := by
  have hr := enc_range 0 4294967295 (by omega) (by omega)
  have hsz := itoaB_size (enc 0 4294967295) (by omega) (by omega)
  have hf := first_eq2
  have hd := enc_dec 0 4294967295 (by omega) (by omega)
  have HR := Aside0.mk (fun w he => run_awake w he)
  generalize enc 0 4294967295 = E at *
  generalize itoaB E = D at *
  clear hr
  have HF := Aside0.mk hf
  have HD := Aside0.mk hd
  clear hf hd
  go_enter Tryz.func10, Tryz.ntmps10
  go_wp2_with (first
    | (go_at_call 8; (with_reducible refine (HR.out _ he).mono ?_); rintro e w1 ⟨rfl, hb1⟩)
    | (go_at_call 9; (with_reducible refine (furlonglaw0_Num.calls 0 0 _ (num_eq 0)).mono ?_); rintro e w2 ⟨rfl, hdr⟩; have hb2 := below_step hb1 hdr.below; clear hdr)
    | (go_at_call 21; (with_reducible refine (furlonglaw25_first.calls 30 E _ HF.out).mono ?_); rintro e w3 ⟨rfl, hb3⟩)
    | (go_at_call 14; (with_reducible refine (furlongref0_Decimal.calls 40 E D _ HD.out).mono ?_); rintro e w4 ⟨rfl, hb4⟩))
  go_ret
  exact ⟨by simp, below_step hb2 (below_step hb3 hb4)⟩
end Go.Proofs.YtibakeahgcakmaaGreatDoor
