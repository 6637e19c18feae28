/- ConsolePlaces: the walk and the plain law. -/
import Derived.Test.YtibakeahgcakmaaGreatDoorVBegins
set_option linter.unusedVariables false
set_option linter.unusedSimpArgs false
namespace Go.Proofs.YtibakeahgcakmaaGreatDoor
open Go.Shelf Go.RowKit Go.Proofs.YtibakeahgcakmaaGreatDoorW.PrintWords Go.Proofs.YtibakeahgcakmaaGreatDoorW.PrintLast Go.Proofs.YtibakeahgcakmaaGreatDoorW.PrintMore PF Curve

theorem dec_free (n : Nat) (h : n < 10 ^ 10) : Lib.decDigits n ≠ [] ∧ (∀ y ∈ Lib.decDigits n, isBl y = false) ∧ (∀ y ∈ Lib.decDigits n, y ≠ 10) := by
  obtain ⟨h1, h2⟩ := dec_digits 9 n h
  refine ⟨fun e => by rw [e] at h1; simp at h1, fun y hy => ?_, fun y hy e => ?_⟩
  · have := h2 y hy
    unfold isBl
    rw [Bool.or_eq_false_iff]
    constructor <;> (rw [beq_eq_false_iff_ne]; rintro rfl; revert this; decide)
  · have := h2 y hy
    subst e; revert this; decide
theorem lineL_one (l : List UInt8) (h : ∀ y ∈ l, y ≠ 10) : runL l = lineL l := by
  have := ln_free l [] [] h
  rw [List.append_nil] at this
  unfold runL
  rw [this]
  show lineL ([] ++ l) ++ [] = _
  rw [List.nil_append, List.append_nil]
theorem mk_dec (n : Nat) : mkB (Lib.decDigits n) = itoaB (n : Int) := by
  unfold mkB itoaB Lib.itoa; rw [if_neg (by omega), Int.toNat_natCast]
theorem fl_word (a t : List UInt8) (ha : ∀ y ∈ a, isBl y = false) (hne : a ≠ []) : fl (a ++ 32 :: t) [] = a :: fl t [] := by
  rw [fl_skip a _ [] ha, List.nil_append, fl, if_pos (by decide), if_neg hne]
theorem fl_last (a : List UInt8) (ha : ∀ y ∈ a, isBl y = false) (hne : a ≠ []) : fl a [] = [a] := by
  have := fl_skip a [] [] ha
  rw [List.append_nil] at this
  rw [this, List.nil_append, fl, if_neg hne]
theorem curve_line (x y : Nat) (hx : x ≤ 4294967295) (hy : y ≤ 4294967295) :
    runL ([99, 117, 114, 118, 101] ++ 32 :: (Lib.decDigits x ++ 32 :: Lib.decDigits y)) = (itoaB (enc x y)).data.toList ++ [10] := by
  obtain ⟨x1, x2, x3⟩ := dec_free x (by omega)
  obtain ⟨y1, y2, y3⟩ := dec_free y (by omega)
  rw [lineL_one]
  · refine lineL_ok _ curveW [itoaB (x : Int), itoaB (y : Int)] [(x : Int), (y : Int)] (itoaB (enc x y)) ?_ (by decide +kernel) (by show isCmd curveW 2 = true; decide +kernel) ?_ ?_
    · rw [fl_word _ _ (by decide) (by decide), fl_word _ _ x2 x1, fl_last _ y2 y1]
      simp only [List.map_cons, List.map_nil, mk_dec]
      rfl
    · simp only [numsL]
      rw [numL_dec x (by omega), numL_dec y (by omega)]
    · have h1 : okP (rd [(x : Int), (y : Int)] 0) (rd [(x : Int), (y : Int)] 1) := by show okP (x : Int) (y : Int); unfold okP; omega
      unfold doesR; rw [if_neg (by decide +kernel), if_neg (by decide +kernel), if_pos (by decide +kernel)]
      unfold curveR; rw [if_pos h1]; rfl
  · intro z hz
    rcases List.mem_append.1 hz with hz | hz
    · exact (by decide : ∀ z ∈ ([99, 117, 114, 118, 101] : List UInt8), z ≠ 10) z hz
    · rcases List.mem_cons.1 hz with rfl | hz
      · decide
      · rcases List.mem_append.1 hz with hz | hz
        · exact x3 z hz
        · rcases List.mem_cons.1 hz with rfl | hz
          · decide
          · exact y3 z hz
theorem place_line (d : Nat) (hd : d < 4294967296) (a b : Nat) (h : deh 16 d = (a, b)) :
    runL ([112, 108, 97, 99, 101] ++ 32 :: Lib.decDigits d) = (itoaB ((a * 65536 : Nat) : Int) ++ blankB ++ itoaB ((b * 65536 : Nat) : Int)).data.toList ++ [10] := by
  obtain ⟨x1, x2, x3⟩ := dec_free d (by omega)
  rw [lineL_one]
  · refine lineL_ok _ placeW [itoaB (d : Int)] [(d : Int)] _ ?_ (by decide +kernel) (by show isCmd placeW 1 = true; decide +kernel) ?_ ?_
    · rw [fl_word _ _ (by decide) (by decide), fl_last _ x2 x1]
      simp only [List.map_cons, List.map_nil, mk_dec]
      rfl
    · simp only [numsL]
      rw [numL_dec d (by omega)]
    · have h1 : rd [(d : Int)] 0 < 4294967296 := by show (d : Int) < 4294967296; omega
      have h2 : deh 16 (rd [(d : Int)] 0).toNat = (a, b) := h
      unfold doesR; rw [if_neg (by decide +kernel), if_neg (by decide +kernel), if_neg (by decide +kernel), if_pos (by decide +kernel)]
      unfold placeR; rw [if_pos h1, h2]
  · intro z hz
    rcases List.mem_append.1 hz with hz | hz
    · exact (by decide : ∀ z ∈ ([112, 108, 97, 99, 101] : List UInt8), z ≠ 10) z hz
    · rcases List.mem_cons.1 hz with rfl | hz
      · decide
      · exact x3 z hz
/-- What the two lines tell. -/
theorem places_law (x y : Nat) (hx : x ≤ 4294967295) (hy : y ≤ 4294967295) :
    runL (((⟨#[99, 117, 114, 118, 101, 32]⟩ : ByteArray) ++ itoaB x ++ (⟨#[32]⟩ : ByteArray) ++ itoaB y ++ (⟨#[10, 112, 108, 97, 99, 101, 32]⟩ : ByteArray) ++ itoaB (enc x y)).data.toList) =
      (itoaB (enc x y) ++ (⟨#[10]⟩ : ByteArray) ++ itoaB ((x : Int) - (x : Int) % 65536) ++ (⟨#[32]⟩ : ByteArray) ++ itoaB ((y : Int) - (y : Int) % 65536) ++ (⟨#[10]⟩ : ByteArray)).data.toList := by
  have hr := enc_range x y (by omega) (by omega)
  obtain ⟨d, hd⟩ := Int.eq_ofNat_of_zero_le hr.1
  have hdh : deh 16 d = (x / 65536, y / 65536) := by
    have h := deh_hil 16 (x / 65536) (y / 65536) (by show _ < 65536; omega) (by show _ < 65536; omega)
    have e : d = hil 16 (x / 65536) (y / 65536) := by
      have : enc x y = (hil 16 (x / 65536) (y / 65536) : Nat) := rfl
      omega
    rw [e]; exact h
  have hc := curve_line x y hx hy
  rw [hd] at hc ⊢
  have hp := place_line d (by omega) _ _ hdh
  have ex : (x : Int) - (x : Int) % 65536 = ((x / 65536 * 65536 : Nat) : Int) := by omega
  have ey : (y : Int) - (y : Int) % 65536 = ((y / 65536 * 65536 : Nat) : Int) := by omega
  rw [ex, ey]
  simp only [ByteArray.data_append, Array.toList_append, itoaB_dec] at hc hp ⊢
  have hl : [99, 117, 114, 118, 101, 32] ++ Lib.decDigits x ++ [32] ++ Lib.decDigits y ++ [10, 112, 108, 97, 99, 101, 32] ++ Lib.decDigits d =
      ([99, 117, 114, 118, 101] ++ 32 :: (Lib.decDigits x ++ 32 :: Lib.decDigits y)) ++ 10 :: ([112, 108, 97, 99, 101] ++ 32 :: Lib.decDigits d) := by simp
  refine (congrArg runL hl).trans ?_
  rw [runL_app, hc, hp]
  simp [blankB]

theorem mask_range (x : Int) : ∃ n : Nat, n ≤ 4294967295 ∧ bits .and .i64 x 4294967295 = (n : Int) := by
  refine ⟨(BitVec.ofInt 64 x &&& BitVec.ofInt 64 4294967295).toNat, ?_, ?_⟩
  · rw [BitVec.toNat_and]
    exact Nat.le_trans Nat.and_le_right (by decide)
  · have h : (BitVec.ofInt 64 x &&& BitVec.ofInt 64 4294967295).toNat ≤ 4294967295 := by
      rw [BitVec.toNat_and]
      exact Nat.le_trans Nat.and_le_right (by decide)
    show IntKind.i64.wrap ((BitVec.ofInt 64 x &&& BitVec.ofInt 64 4294967295).toNat : Int) = _
    exact wraps_i64 _ (by omega) (by omega)
theorem refEnc_eq (x y : Nat) (hx : x ≤ 4294967295) (hy : y ≤ 4294967295) : furlongref1_Encode.f 30 (x : Int) (y : Int) = some (enc x y, 0) := by
  rw [refEncode_eq 30 (x : Int) (y : Int) (by omega), if_pos (by omega)]

set_option maxHeartbeats 4000000 in
set_option maxRecDepth 100000 in
theorem places_calls (x y : Int) (w : World) (he : Env w) : Calls Tryz.prog 7 #[.int .i64 x, .int .i64 y] w fun e w' => e = .returned (.bool true) ∧ Below w.heap.size w w' := by
  obtain ⟨a, ha, ea⟩ := mask_range x
  obtain ⟨b, hb, eb⟩ := mask_range y
  have hr := enc_range a b (by omega) (by omega)
  have hE := refEnc_eq a b ha hb
  have hl := places_law a b ha hb
  have hda := Decimal_eq a (by omega)
  have hdb := Decimal_eq b (by omega)
  have hdd := enc_dec a b (by omega) (by omega)
  have m1 : ((a : Int) - (a : Int) % 65536) = ((a / 65536 * 65536 : Nat) : Int) := by omega
  have m2 : ((b : Int) - (b : Int) % 65536) = ((b / 65536 * 65536 : Nat) : Int) := by omega
  have hd1 := Decimal_eq (a / 65536 * 65536) (by omega)
  have hd2 := Decimal_eq (b / 65536 * 65536) (by omega)
  rw [← m1] at hd1
  rw [← m2] at hd2
  have t1 : (a : Int).tmod 65536 = (a : Int) % 65536 := Int.tmod_eq_emod_of_nonneg (by omega)
  have t2 : (b : Int).tmod 65536 = (b : Int) % 65536 := Int.tmod_eq_emod_of_nonneg (by omega)
  have q1 : wrap64 ((a : Int) - (a : Int) % 65536) = (a : Int) - (a : Int) % 65536 := w64 _ (by omega) (by omega)
  have q2 : wrap64 ((b : Int) - (b : Int) % 65536) = (b : Int) - (b : Int) % 65536 := w64 _ (by omega) (by omega)
  have q3 : IntKind.i64.wrap ((a : Int) - (a : Int) % 65536) = (a : Int) - (a : Int) % 65536 := wraps_i64 _ (by omega) (by omega)
  have q4 : IntKind.i64.wrap ((b : Int) - (b : Int) % 65536) = (b : Int) - (b : Int) % 65536 := wraps_i64 _ (by omega) (by omega)
  have s1 := itoa100 a (by omega)
  have s2 := itoa100 b (by omega)
  have s3 := itoa100 (enc a b) (by omega)
  have s4 := itoa100 ((a : Int) - (a : Int) % 65536) (by omega)
  have s5 := itoa100 ((b : Int) - (b : Int) % 65536) (by omega)
  have M1 := Aside0.mk m1
  have M2 := Aside0.mk m2
  clear m1 m2
  have hrun : ∀ w, Env w → Calls Tryz.prog 8 #[.string ((⟨#[99, 117, 114, 118, 101, 32]⟩ : ByteArray) ++ itoaB a ++ (⟨#[32]⟩ : ByteArray) ++ itoaB b ++ (⟨#[10, 112, 108, 97, 99, 101, 32]⟩ : ByteArray) ++ itoaB (enc a b))] w fun e w' =>
      e = .returned (.tuple #[.string (itoaB (enc a b) ++ (⟨#[10]⟩ : ByteArray) ++ itoaB ((a : Int) - (a : Int) % 65536) ++ (⟨#[32]⟩ : ByteArray) ++ itoaB ((b : Int) - (b : Int) % 65536) ++ (⟨#[10]⟩ : ByteArray)), .int .i64 0]) ∧ Below w.heap.size w w' := by
    intro w hw
    refine run_says _ _ hl ?_ w hw
    have c1 : (⟨#[99, 117, 114, 118, 101, 32]⟩ : ByteArray).size = 6 := rfl
    have c2 : (⟨#[32]⟩ : ByteArray).size = 1 := rfl
    have c3 : (⟨#[10, 112, 108, 97, 99, 101, 32]⟩ : ByteArray).size = 7 := rfl
    simp only [ByteArray.size_append, c1, c2, c3]
    omega
  have HR := Aside0.mk hrun
  have HE := Aside0.mk hE
  have HDA := Aside0.mk hda
  have HDB := Aside0.mk hdb
  have HDD := Aside0.mk hdd
  have HD1 := Aside0.mk hd1
  have HD2 := Aside0.mk hd2
  clear hrun hE hda hdb hdd hd1 hd2 hl hr
  generalize itoaB (a : Int) = A at *
  generalize itoaB (b : Int) = B at *
  generalize itoaB (enc a b) = D at *
  generalize itoaB ((a : Int) - (a : Int) % 65536) = A2 at *
  generalize itoaB ((b : Int) - (b : Int) % 65536) = B2 at *
  generalize enc a b = d at *
  have p1 : ¬ 9223372036854775807 < 6 + A.size := by omega
  have p2 : ¬ 9223372036854775807 < 6 + A.size + 1 := by omega
  have p3 : ¬ 9223372036854775807 < 6 + A.size + 1 + B.size := by omega
  have p4 : ¬ 9223372036854775807 < 6 + A.size + 1 + B.size + 7 := by omega
  have p5 : ¬ 9223372036854775807 < 6 + A.size + 1 + B.size + 7 + D.size := by omega
  have r1 : ¬ 9223372036854775807 < D.size + 1 := by omega
  have r2 : ¬ 9223372036854775807 < D.size + 1 + A2.size := by omega
  have r3 : ¬ 9223372036854775807 < D.size + 1 + A2.size + 1 := by omega
  have r4 : ¬ 9223372036854775807 < D.size + 1 + A2.size + 1 + B2.size := by omega
  have r5 : ¬ 9223372036854775807 < D.size + 1 + A2.size + 1 + B2.size + 1 := by omega
  clear s1 s2 s3 s4 s5
  go_enter Tryz.func7, Tryz.ntmps7
  go_wp2_with (first
    | (go_at_call 10; (with_reducible refine (awake_calls _ he).mono ?_); rintro e w1 ⟨rfl, hb1⟩)
    | (go_at_call 13; (with_reducible refine (furlongref1_Encode.calls 30 _ _ d 0 _ HE.out).mono ?_); rintro e w2 ⟨rfl, hb2⟩))
  have c0 : w2.cell? ⟨w1.heap.size, 0, none⟩ = some (.int .i64 (a : Int)) := pw_cell_below hb2 (by simp)
  have c1 : w2.cell? ⟨w1.heap.size, 1, none⟩ = some (.int .i64 (b : Int)) := pw_cell_below hb2 (by simp)
  have hb3 := below_step (below_alloc hb1 _) hb2
  have HENV := Aside0.mk (fun W (h : Below w2.heap.size w2 W) => (he.below hb3).below h)
  have HB3 := Aside0.mk hb3
  clear hb3 hb2 hb1
  go_region_held3 (fun w' => w'.cell? ⟨w1.heap.size, 0, none⟩ = some (.int .i64 (a : Int)) ∧ w'.cell? ⟨w1.heap.size, 1, none⟩ = some (.int .i64 (b : Int)) ∧ Aside0 (Below w2.heap.size w2 w'))
    (first | (go_split_ands; refine ⟨?_, ?_, ?_⟩ <;> first | assumption | exact pw_cell_below ‹_› ‹_› | exact ⟨below_step (Aside0.out ‹_›) ‹_›⟩ | exact ⟨below_drew (Below.refl _ _)⟩))
    (first
      | (go_at_call 14; go_split_ands; first
          | ((with_reducible refine (furlongref0_Decimal.calls 40 (a : Int) A _ HDA.out).mono ?_); rintro e w' ⟨rfl, hb⟩)
          | ((with_reducible refine (furlongref0_Decimal.calls 40 (b : Int) B _ HDB.out).mono ?_); rintro e w' ⟨rfl, hb⟩)
          | ((with_reducible refine (furlongref0_Decimal.calls 40 d D _ HDD.out).mono ?_); rintro e w' ⟨rfl, hb⟩))
      | (go_at_call 8; go_split_ands; (with_reducible refine (HR.out _ (HENV.out _ (Aside0.out ‹_›))).mono ?_); rintro e w' ⟨rfl, hb⟩))
  go_split_ands
  rename_i hz
  have hz1 := hz.out
  have HB4 := Aside0.mk (below_step HB3.out hz1)
  have d0 := pw_cell_below hz1 c0
  have d1 := pw_cell_below hz1 c1
  clear hz hz1 c0 c1 HB3 HENV HR
  generalize w' = w5 at *
  go_wp2
  go_region_held3 (fun w' => w'.cell? ⟨w1.heap.size, 0, none⟩ = some (.int .i64 (a : Int)) ∧ w'.cell? ⟨w1.heap.size, 1, none⟩ = some (.int .i64 (b : Int)) ∧ Aside0 (Below w5.heap.size w5 w'))
    (first | (go_split_ands; refine ⟨?_, ?_, ?_⟩ <;> first | assumption | exact pw_cell_below ‹_› ‹_› | exact ⟨below_step (Aside0.out ‹_›) ‹_›⟩ | exact ⟨below_drew (Below.refl _ _)⟩))
    (first
      | (go_at_call 14; go_split_ands; first
          | ((with_reducible refine (furlongref0_Decimal.calls 40 d D _ HDD.out).mono ?_); rintro e w' ⟨rfl, hb⟩)
          | ((with_reducible refine (furlongref0_Decimal.calls 40 ((a : Int) - (a : Int) % 65536) A2 _ HD1.out).mono ?_); rintro e w' ⟨rfl, hb⟩)
          | ((with_reducible refine (furlongref0_Decimal.calls 40 ((b : Int) - (b : Int) % 65536) B2 _ HD2.out).mono ?_); rintro e w' ⟨rfl, hb⟩))
      | (go_at_call 9; go_split_ands; (with_reducible refine (furlonglaw0_Num.calls 0 0 _ (num_eq 0)).mono ?_); rintro e w' ⟨rfl, hdr⟩; have hb := hdr.below; clear hdr))
  go_split_ands
  rename_i hz
  go_wp2
  go_ret
  exact ⟨by simp, below_step HB4.out hz.out⟩
end Go.Proofs.YtibakeahgcakmaaGreatDoor
