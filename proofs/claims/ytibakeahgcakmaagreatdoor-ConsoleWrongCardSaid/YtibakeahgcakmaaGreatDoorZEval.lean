/- Scripts that are given: what they tell. -/
import Derived.Test.YtibakeahgcakmaaGreatDoorZRun
import Derived.Test.YtibakeahgcakmaaGreatDoorZDec
set_option linter.unusedVariables false
set_option linter.unusedSimpArgs false
namespace Go.Proofs.YtibakeahgcakmaaGreatDoor
open Go.Shelf Go.RowKit Go.Proofs.YtibakeahgcakmaaGreatDoorW.PrintWords Go.Proofs.YtibakeahgcakmaaGreatDoorW.PrintLast Go.Proofs.YtibakeahgcakmaaGreatDoorW.PrintMore PF Curve

def mkB (x : List UInt8) : ByteArray := ⟨x.toArray⟩
theorem lineB_eq (w : ByteArray) (rest : List ByteArray) : lineB (w :: rest) = if isCmd w rest.length = true then
      (match numsL rest with
       | none => failedB 2500
       | some xs => if (doesR w xs).2 = 0 then (doesR w xs).1 else failedB (doesR w xs).2)
    else failedB 2500 := rfl
theorem lineW_eq (w : ByteArray) (rest : List ByteArray) : lineW (w :: rest) = if w.data.toList.head? = some 35 then [] else (lineB (w :: rest)).data.toList ++ [10] := rfl
theorem lineL_ok (l : List UInt8) (w : ByteArray) (rest : List ByteArray) (xs : List Int) (out : ByteArray) (hf : (fl l []).map mkB = w :: rest) (h35 : w.data.toList.head? ≠ some 35) (hc : isCmd w rest.length = true)
    (hn : numsL rest = some xs) (hd : doesR w xs = (out, 0)) : lineL l = out.data.toList ++ [10] := by
  have hb : lineB (w :: rest) = out := by
    rw [lineB_eq, if_pos hc, hn]; simp only [hd]; rfl
  show lineW ((fl l []).map mkB) = _
  rw [hf, lineW_eq, if_neg h35, hb]
theorem lineL_err (l : List UInt8) (w : ByteArray) (rest : List ByteArray) (xs : List Int) (out : ByteArray) (e : Int) (hf : (fl l []).map mkB = w :: rest) (h35 : w.data.toList.head? ≠ some 35) (hc : isCmd w rest.length = true)
    (hn : numsL rest = some xs) (hd : doesR w xs = (out, e)) (he : e ≠ 0) : lineL l = (failedB e).data.toList ++ [10] := by
  have hb : lineB (w :: rest) = failedB e := by
    rw [lineB_eq, if_pos hc, hn]; simp only [hd]; rw [if_neg he]
  show lineW ((fl l []).map mkB) = _
  rw [hf, lineW_eq, if_neg h35, hb]
theorem lineL_bad (l : List UInt8) (w : ByteArray) (rest : List ByteArray) (hf : (fl l []).map mkB = w :: rest) (h35 : w.data.toList.head? ≠ some 35) (hc : isCmd w rest.length = false ∨ numsL rest = none) : lineL l = (failedB 2500).data.toList ++ [10] := by
  have hb : lineB (w :: rest) = failedB 2500 := by
    rw [lineB_eq]
    rcases hc with hc | hc
    · rw [if_neg (by rw [hc]; decide)]
    · rw [hc]; split <;> rfl
  show lineW ((fl l []).map mkB) = _
  rw [hf, lineW_eq, if_neg h35, hb]
theorem lineL_none (l : List UInt8) (hf : fl l [] = []) : lineL l = [] := by
  unfold lineL; rw [hf]; rfl
theorem lineL_rem (l : List UInt8) (w : ByteArray) (rest : List ByteArray) (hf : (fl l []).map mkB = w :: rest) (h35 : w.data.toList.head? = some 35) : lineL l = [] := by
  show lineW ((fl l []).map mkB) = _
  rw [hf]
  exact if_pos h35
theorem itoa_lit (n : Nat) (l : List UInt8) (h : n < 10 ^ 20) (e : txt n = l) : itoaB (n : Int) = ⟨l.toArray⟩ := by rw [itoaB_txt n h, e]

theorem itoa_0 : itoaB 0 = ⟨#[48]⟩ := itoa_lit 0 _ (by decide) (by decide +kernel)
theorem itoa_1 : itoaB 1 = ⟨#[49]⟩ := itoa_lit 1 _ (by decide) (by decide +kernel)
theorem itoa_300 : itoaB 300 = ⟨#[51, 48, 48]⟩ := itoa_lit 300 _ (by decide) (by decide +kernel)
theorem itoa_1048576 : itoaB 1048576 = ⟨#[49, 48, 52, 56, 53, 55, 54]⟩ := itoa_lit 1048576 _ (by decide) (by decide +kernel)
theorem itoa_2500 : itoaB 2500 = ⟨#[50, 53, 48, 48]⟩ := itoa_lit 2500 _ (by decide) (by decide +kernel)
theorem failed_300 : (failedB 300).data.toList = [101, 114, 114, 111, 114, 32, 51, 48, 48] := by unfold failedB; rw [itoa_300]; rfl
theorem failed_2500 : (failedB 2500).data.toList = [101, 114, 114, 111, 114, 32, 50, 53, 48, 48] := by unfold failedB; rw [itoa_2500]; rfl
theorem aw_turn : lineL [116, 117, 114, 110, 32, 48, 32, 48, 32, 49, 48, 32, 48, 32, 48, 32, 49, 48] = [108, 101, 102, 116, 10] := by
  have hd : doesR turnW [0, 0, 10, 0, 0, 10] = (leftB, 0) := by decide +kernel
  rw [lineL_ok [116, 117, 114, 110, 32, 48, 32, 48, 32, 49, 48, 32, 48, 32, 48, 32, 49, 48] turnW [(⟨#[48]⟩ : ByteArray), (⟨#[48]⟩ : ByteArray), (⟨#[49, 48]⟩ : ByteArray), (⟨#[48]⟩ : ByteArray), (⟨#[48]⟩ : ByteArray), (⟨#[49, 48]⟩ : ByteArray)] [0, 0, 10, 0, 0, 10] leftB (by decide +kernel) (by decide +kernel) (by decide +kernel) (by decide +kernel) hd]
  rfl
theorem aw_cross : lineL [99, 114, 111, 115, 115, 32, 48, 32, 48, 32, 57, 32, 57, 32, 48, 32, 57, 32, 57, 32, 48] = [121, 101, 115, 10] := by
  have hd : doesR crossW [0, 0, 9, 9, 0, 9, 9, 0] = (yesB, 0) := by decide +kernel
  rw [lineL_ok [99, 114, 111, 115, 115, 32, 48, 32, 48, 32, 57, 32, 57, 32, 48, 32, 57, 32, 57, 32, 48] crossW [(⟨#[48]⟩ : ByteArray), (⟨#[48]⟩ : ByteArray), (⟨#[57]⟩ : ByteArray), (⟨#[57]⟩ : ByteArray), (⟨#[48]⟩ : ByteArray), (⟨#[57]⟩ : ByteArray), (⟨#[57]⟩ : ByteArray), (⟨#[48]⟩ : ByteArray)] [0, 0, 9, 9, 0, 9, 9, 0] yesB (by decide +kernel) (by decide +kernel) (by decide +kernel) (by decide +kernel) hd]
  rfl
theorem aw_curve : lineL [99, 117, 114, 118, 101, 32, 48, 32, 52, 50, 57, 52, 57, 54, 55, 50, 57, 53] = (itoaB (enc 0 4294967295)).data.toList ++ [10] := by
  have hd : doesR curveW [0, 4294967295] = ((itoaB (enc 0 4294967295)), 0) := by unfold doesR; rw [if_neg (by decide +kernel), if_neg (by decide +kernel), if_pos (by decide +kernel)]; unfold curveR; rw [if_pos (by decide +kernel)]; rfl
  rw [lineL_ok [99, 117, 114, 118, 101, 32, 48, 32, 52, 50, 57, 52, 57, 54, 55, 50, 57, 53] curveW [(⟨#[48]⟩ : ByteArray), (⟨#[52, 50, 57, 52, 57, 54, 55, 50, 57, 53]⟩ : ByteArray)] [0, 4294967295] (itoaB (enc 0 4294967295)) (by decide +kernel) (by decide +kernel) (by decide +kernel) (by decide +kernel) hd]
theorem aw_place : lineL [112, 108, 97, 99, 101, 32, 48] = [48, 32, 48, 10] := by
  have hd : doesR placeW [0] = ((itoaB 0 ++ blankB ++ itoaB 0), 0) := by rfl
  rw [lineL_ok [112, 108, 97, 99, 101, 32, 48] placeW [(⟨#[48]⟩ : ByteArray)] [0] (itoaB 0 ++ blankB ++ itoaB 0) (by decide +kernel) (by decide +kernel) (by decide +kernel) (by decide +kernel) hd]
  rw [itoa_0]; rfl
theorem aw_owner : lineL [111, 119, 110, 101, 114, 32, 50, 32, 48] = [48, 10] := by
  have hd : doesR ownerW [2, 0] = ((itoaB 0), 0) := by rfl
  rw [lineL_ok [111, 119, 110, 101, 114, 32, 50, 32, 48] ownerW [(⟨#[50]⟩ : ByteArray), (⟨#[48]⟩ : ByteArray)] [2, 0] (itoaB 0) (by decide +kernel) (by decide +kernel) (by decide +kernel) (by decide +kernel) hd]
  rw [itoa_0]; rfl
theorem cover_0 : coverL 0 0 0 0 = [⟨0, 1048576⟩] := by
  have hg : gridC 0 0 1 1 = [0] := by decide +kernel
  show foldC (srt (gridC 0 0 1 1)) = _
  rw [hg]
  unfold srt
  rw [List.mergeSort_singleton]
  rfl
theorem aw_cover : lineL [99, 111, 118, 101, 114, 32, 48, 32, 48, 32, 48, 32, 48] = [49, 32, 49, 48, 52, 56, 53, 55, 54, 10] := by
  have hd : doesR coverW [0, 0, 0, 0] = ((itoaB 1 ++ blankB ++ itoaB 1048576), 0) := by show (tellL (coverL 0 0 0 0), (0 : Int)) = _; rw [cover_0]; unfold tellL; rw [show sumC [⟨0, 1048576⟩] = 1048576 by decide +kernel]; rfl
  rw [lineL_ok [99, 111, 118, 101, 114, 32, 48, 32, 48, 32, 48, 32, 48] coverW [(⟨#[48]⟩ : ByteArray), (⟨#[48]⟩ : ByteArray), (⟨#[48]⟩ : ByteArray), (⟨#[48]⟩ : ByteArray)] [0, 0, 0, 0] (itoaB 1 ++ blankB ++ itoaB 1048576) (by decide +kernel) (by decide +kernel) (by decide +kernel) (by decide +kernel) hd]
  rw [itoa_1, itoa_1048576]; rfl
theorem aw_turn2 : lineL [116, 117, 114, 110, 32, 48, 32, 48, 32, 48, 32, 48, 32, 48, 32, 52, 50, 57, 52, 57, 54, 55, 50, 57, 54] = [101, 114, 114, 111, 114, 32, 51, 48, 48, 10] := by
  rw [lineL_err [116, 117, 114, 110, 32, 48, 32, 48, 32, 48, 32, 48, 32, 48, 32, 52, 50, 57, 52, 57, 54, 55, 50, 57, 54] turnW [(⟨#[48]⟩ : ByteArray), (⟨#[48]⟩ : ByteArray), (⟨#[48]⟩ : ByteArray), (⟨#[48]⟩ : ByteArray), (⟨#[48]⟩ : ByteArray), (⟨#[52, 50, 57, 52, 57, 54, 55, 50, 57, 54]⟩ : ByteArray)] [0, 0, 0, 0, 0, 4294967296] (turnB 0) 300 (by decide +kernel) (by decide +kernel) (by decide +kernel) (by decide +kernel) (by decide +kernel) (by decide), failed_300]
  rfl
theorem aw_frob : lineL [102, 114, 111, 98] = [101, 114, 114, 111, 114, 32, 50, 53, 48, 48, 10] := by
  rw [lineL_bad [102, 114, 111, 98] (⟨#[102, 114, 111, 98]⟩ : ByteArray) [] (by decide +kernel) (by decide +kernel) (.inl (by decide +kernel)), failed_2500]
  rfl
theorem aw_rem : lineL [35, 32, 120] = [] := lineL_rem _ (⟨#[35]⟩ : ByteArray) [(⟨#[120]⟩ : ByteArray)] (by decide +kernel) (by decide +kernel)
theorem aw_empty : lineL [] = [] := lineL_none _ rfl
def awakeL : List UInt8 := [116, 117, 114, 110, 32, 48, 32, 48, 32, 49, 48, 32, 48, 32, 48, 32, 49, 48, 10, 35, 32, 120, 10, 10, 99, 114, 111, 115, 115, 32, 48, 32, 48, 32, 57, 32, 57, 32, 48, 32, 57, 32, 57, 32, 48, 10, 102, 114, 111, 98, 10, 99, 117, 114, 118, 101, 32, 48, 32, 52, 50, 57, 52, 57, 54, 55, 50, 57, 53, 10, 112, 108, 97, 99, 101, 32, 48, 10, 99, 111, 118, 101, 114, 32, 48, 32, 48, 32, 48, 32, 48, 10, 111, 119, 110, 101, 114, 32, 50, 32, 48, 10, 116, 117, 114, 110, 32, 48, 32, 48, 32, 48, 32, 48, 32, 48, 32, 52, 50, 57, 52, 57, 54, 55, 50, 57, 54]
theorem awake_run : runL awakeL = [108, 101, 102, 116, 10, 121, 101, 115, 10, 101, 114, 114, 111, 114, 32, 50, 53, 48, 48, 10] ++ ((itoaB (enc 0 4294967295)).data.toList ++ [10, 48, 32, 48, 10, 49, 32, 49, 48, 52, 56, 53, 55, 54, 10, 48, 10, 101, 114, 114, 111, 114, 32, 51, 48, 48, 10]) := by
  have hl : ln awakeL [] = [[116, 117, 114, 110, 32, 48, 32, 48, 32, 49, 48, 32, 48, 32, 48, 32, 49, 48], [35, 32, 120], [], [99, 114, 111, 115, 115, 32, 48, 32, 48, 32, 57, 32, 57, 32, 48, 32, 57, 32, 57, 32, 48], [102, 114, 111, 98], [99, 117, 114, 118, 101, 32, 48, 32, 52, 50, 57, 52, 57, 54, 55, 50, 57, 53], [112, 108, 97, 99, 101, 32, 48], [99, 111, 118, 101, 114, 32, 48, 32, 48, 32, 48, 32, 48], [111, 119, 110, 101, 114, 32, 50, 32, 48], [116, 117, 114, 110, 32, 48, 32, 48, 32, 48, 32, 48, 32, 48, 32, 52, 50, 57, 52, 57, 54, 55, 50, 57, 54]] := by decide +kernel
  unfold runL
  rw [hl]
  simp only [List.flatMap_cons, List.flatMap_nil, aw_turn, aw_rem, aw_empty, aw_cross, aw_frob, aw_curve, aw_place, aw_cover, aw_owner, aw_turn2]
  simp only [List.append_nil, List.nil_append, List.append_assoc, List.cons_append]
/-! The wrong lines. -/
theorem wr_0 : lineL [116, 117, 114, 110] = [101, 114, 114, 111, 114, 32, 50, 53, 48, 48, 10] := by
  rw [lineL_bad [116, 117, 114, 110] turnW [] (by decide +kernel) (by decide +kernel) (.inl (by decide +kernel)), failed_2500]
  rfl
theorem wr_1 : lineL [116, 117, 114, 110, 32, 49, 32, 50, 32, 51, 32, 52, 32, 53] = [101, 114, 114, 111, 114, 32, 50, 53, 48, 48, 10] := by
  rw [lineL_bad [116, 117, 114, 110, 32, 49, 32, 50, 32, 51, 32, 52, 32, 53] turnW [(⟨#[49]⟩ : ByteArray), (⟨#[50]⟩ : ByteArray), (⟨#[51]⟩ : ByteArray), (⟨#[52]⟩ : ByteArray), (⟨#[53]⟩ : ByteArray)] (by decide +kernel) (by decide +kernel) (.inl (by decide +kernel)), failed_2500]
  rfl
theorem wr_2 : lineL [116, 117, 114, 110, 32, 49, 32, 50, 32, 51, 32, 52, 32, 53, 32, 54, 32, 55] = [101, 114, 114, 111, 114, 32, 50, 53, 48, 48, 10] := by
  rw [lineL_bad [116, 117, 114, 110, 32, 49, 32, 50, 32, 51, 32, 52, 32, 53, 32, 54, 32, 55] turnW [(⟨#[49]⟩ : ByteArray), (⟨#[50]⟩ : ByteArray), (⟨#[51]⟩ : ByteArray), (⟨#[52]⟩ : ByteArray), (⟨#[53]⟩ : ByteArray), (⟨#[54]⟩ : ByteArray), (⟨#[55]⟩ : ByteArray)] (by decide +kernel) (by decide +kernel) (.inl (by decide +kernel)), failed_2500]
  rfl
theorem wr_3 : lineL [116, 117, 114, 110, 32, 49, 32, 50, 32, 51, 32, 52, 32, 53, 32, 120] = [101, 114, 114, 111, 114, 32, 50, 53, 48, 48, 10] := by
  rw [lineL_bad [116, 117, 114, 110, 32, 49, 32, 50, 32, 51, 32, 52, 32, 53, 32, 120] turnW [(⟨#[49]⟩ : ByteArray), (⟨#[50]⟩ : ByteArray), (⟨#[51]⟩ : ByteArray), (⟨#[52]⟩ : ByteArray), (⟨#[53]⟩ : ByteArray), (⟨#[120]⟩ : ByteArray)] (by decide +kernel) (by decide +kernel) (.inr (by decide +kernel)), failed_2500]
  rfl
theorem wr_4 : lineL [99, 114, 111, 115, 115, 32, 49, 32, 50, 32, 51, 32, 52, 32, 53, 32, 54] = [101, 114, 114, 111, 114, 32, 50, 53, 48, 48, 10] := by
  rw [lineL_bad [99, 114, 111, 115, 115, 32, 49, 32, 50, 32, 51, 32, 52, 32, 53, 32, 54] crossW [(⟨#[49]⟩ : ByteArray), (⟨#[50]⟩ : ByteArray), (⟨#[51]⟩ : ByteArray), (⟨#[52]⟩ : ByteArray), (⟨#[53]⟩ : ByteArray), (⟨#[54]⟩ : ByteArray)] (by decide +kernel) (by decide +kernel) (.inl (by decide +kernel)), failed_2500]
  rfl
theorem wr_5 : lineL [99, 117, 114, 118, 101, 32, 49] = [101, 114, 114, 111, 114, 32, 50, 53, 48, 48, 10] := by
  rw [lineL_bad [99, 117, 114, 118, 101, 32, 49] curveW [(⟨#[49]⟩ : ByteArray)] (by decide +kernel) (by decide +kernel) (.inl (by decide +kernel)), failed_2500]
  rfl
theorem wr_6 : lineL [99, 117, 114, 118, 101, 32, 45, 49, 32, 50] = [101, 114, 114, 111, 114, 32, 50, 53, 48, 48, 10] := by
  rw [lineL_bad [99, 117, 114, 118, 101, 32, 45, 49, 32, 50] curveW [(⟨#[45, 49]⟩ : ByteArray), (⟨#[50]⟩ : ByteArray)] (by decide +kernel) (by decide +kernel) (.inr (by decide +kernel)), failed_2500]
  rfl
theorem wr_7 : lineL [112, 108, 97, 99, 101] = [101, 114, 114, 111, 114, 32, 50, 53, 48, 48, 10] := by
  rw [lineL_bad [112, 108, 97, 99, 101] placeW [] (by decide +kernel) (by decide +kernel) (.inl (by decide +kernel)), failed_2500]
  rfl
theorem wr_8 : lineL [112, 108, 97, 99, 101, 32, 49, 50, 51, 52, 53, 54, 55, 56, 57, 48, 49] = [101, 114, 114, 111, 114, 32, 50, 53, 48, 48, 10] := by
  rw [lineL_bad [112, 108, 97, 99, 101, 32, 49, 50, 51, 52, 53, 54, 55, 56, 57, 48, 49] placeW [(⟨#[49, 50, 51, 52, 53, 54, 55, 56, 57, 48, 49]⟩ : ByteArray)] (by decide +kernel) (by decide +kernel) (.inr (by decide +kernel)), failed_2500]
  rfl
theorem wr_9 : lineL [99, 111, 118, 101, 114, 32, 49, 32, 50, 32, 51] = [101, 114, 114, 111, 114, 32, 50, 53, 48, 48, 10] := by
  rw [lineL_bad [99, 111, 118, 101, 114, 32, 49, 32, 50, 32, 51] coverW [(⟨#[49]⟩ : ByteArray), (⟨#[50]⟩ : ByteArray), (⟨#[51]⟩ : ByteArray)] (by decide +kernel) (by decide +kernel) (.inl (by decide +kernel)), failed_2500]
  rfl
theorem wr_10 : lineL [111, 119, 110, 101, 114, 32, 50] = [101, 114, 114, 111, 114, 32, 50, 53, 48, 48, 10] := by
  rw [lineL_bad [111, 119, 110, 101, 114, 32, 50] ownerW [(⟨#[50]⟩ : ByteArray)] (by decide +kernel) (by decide +kernel) (.inl (by decide +kernel)), failed_2500]
  rfl
theorem wr_11 : lineL [84, 117, 114, 110, 32, 48, 32, 48, 32, 48, 32, 48, 32, 48, 32, 48] = [101, 114, 114, 111, 114, 32, 50, 53, 48, 48, 10] := by
  rw [lineL_bad [84, 117, 114, 110, 32, 48, 32, 48, 32, 48, 32, 48, 32, 48, 32, 48] (⟨#[84, 117, 114, 110]⟩ : ByteArray) [(⟨#[48]⟩ : ByteArray), (⟨#[48]⟩ : ByteArray), (⟨#[48]⟩ : ByteArray), (⟨#[48]⟩ : ByteArray), (⟨#[48]⟩ : ByteArray), (⟨#[48]⟩ : ByteArray)] (by decide +kernel) (by decide +kernel) (.inl (by decide +kernel)), failed_2500]
  rfl
theorem wr_12 : lineL [112, 108, 97, 99, 101, 32, 48, 120] = [101, 114, 114, 111, 114, 32, 50, 53, 48, 48, 10] := by
  rw [lineL_bad [112, 108, 97, 99, 101, 32, 48, 120] placeW [(⟨#[48, 120]⟩ : ByteArray)] (by decide +kernel) (by decide +kernel) (.inr (by decide +kernel)), failed_2500]
  rfl
def wrongs : List (List UInt8) := [[116, 117, 114, 110], [116, 117, 114, 110, 32, 49, 32, 50, 32, 51, 32, 52, 32, 53], [116, 117, 114, 110, 32, 49, 32, 50, 32, 51, 32, 52, 32, 53, 32, 54, 32, 55], [116, 117, 114, 110, 32, 49, 32, 50, 32, 51, 32, 52, 32, 53, 32, 120], [99, 114, 111, 115, 115, 32, 49, 32, 50, 32, 51, 32, 52, 32, 53, 32, 54], [99, 117, 114, 118, 101, 32, 49], [99, 117, 114, 118, 101, 32, 45, 49, 32, 50], [112, 108, 97, 99, 101], [112, 108, 97, 99, 101, 32, 49, 50, 51, 52, 53, 54, 55, 56, 57, 48, 49], [99, 111, 118, 101, 114, 32, 49, 32, 50, 32, 51], [111, 119, 110, 101, 114, 32, 50], [84, 117, 114, 110, 32, 48, 32, 48, 32, 48, 32, 48, 32, 48, 32, 48], [112, 108, 97, 99, 101, 32, 48, 120]]
theorem wrong_line (l : List UInt8) (h : l ∈ wrongs) : lineL l = [101, 114, 114, 111, 114, 32, 50, 53, 48, 48, 10] := by
  unfold wrongs at h
  simp only [List.mem_cons, List.not_mem_nil, or_false] at h
  rcases h with rfl | rfl | rfl | rfl | rfl | rfl | rfl | rfl | rfl | rfl | rfl | rfl | rfl
  · exact wr_0
  · exact wr_1
  · exact wr_2
  · exact wr_3
  · exact wr_4
  · exact wr_5
  · exact wr_6
  · exact wr_7
  · exact wr_8
  · exact wr_9
  · exact wr_10
  · exact wr_11
  · exact wr_12
theorem wrong_run (l : List UInt8) (h : l ∈ wrongs) : runL ([112, 108, 97, 99, 101, 32, 48, 10] ++ l) = [48, 32, 48, 10, 101, 114, 114, 111, 114, 32, 50, 53, 48, 48, 10] := by
  have hfree : ∀ y ∈ l, y ≠ 10 := by
    have : ∀ l ∈ wrongs, ∀ y ∈ l, y ≠ 10 := by decide +kernel
    exact this l h
  have hl : ln ([112, 108, 97, 99, 101, 32, 48, 10] ++ l) [] = [[112, 108, 97, 99, 101, 32, 48], l] := by
    have := ln_free l [] [] hfree
    rw [List.append_nil] at this
    show [112, 108, 97, 99, 101, 32, 48] :: ln l [] = _
    rw [this]; rfl
  unfold runL
  rw [hl]
  simp only [List.flatMap_cons, List.flatMap_nil, aw_place, wrong_line l h]
  rfl
end Go.Proofs.YtibakeahgcakmaaGreatDoor
