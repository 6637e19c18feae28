/- What each command of the console tells: the plain answer, and the walk of does at each word. -/
import Derived.Test.YtibakeahgcakmaaGreatDoorUBox
import Derived.Test.YtibakeahgcakmaaGreatDoorUCrossW
import Derived.Test.YtibakeahgcakmaaGreatDoorUNumF
set_option linter.unusedVariables false
namespace Go.Proofs.YtibakeahgcakmaaGreatDoor
open Go.Shelf Go.RowKit Go.Proofs.YtibakeahgcakmaaGreatDoorW.PrintWords Go.Proofs.YtibakeahgcakmaaGreatDoorW.PrintLast Go.Proofs.YtibakeahgcakmaaGreatDoorW.PrintMore PF Curve

def yesB : ByteArray := ⟨#[121, 101, 115]⟩
def noB : ByteArray := ⟨#[110, 111]⟩
def turnR (xs : List Int) : ByteArray × Int :=
  if okP (rd xs 0) (rd xs 1) ∧ okP (rd xs 2) (rd xs 3) ∧ okP (rd xs 4) (rd xs 5) then (turnB (turnZ (rd xs 0) (rd xs 1) (rd xs 2) (rd xs 3) (rd xs 4) (rd xs 5)), 0) else (turnB 0, 300)
def crossR (xs : List Int) : ByteArray × Int :=
  if okP (rd xs 0) (rd xs 1) ∧ okP (rd xs 2) (rd xs 3) ∧ okP (rd xs 4) (rd xs 5) ∧ okP (rd xs 6) (rd xs 7) then
    (if crossZ (rd xs 0) (rd xs 1) (rd xs 2) (rd xs 3) (rd xs 4) (rd xs 5) (rd xs 6) (rd xs 7) then yesB else noB, 0) else (noB, 300)
def curveR (xs : List Int) : ByteArray × Int := if okP (rd xs 0) (rd xs 1) then (itoaB (enc (rd xs 0) (rd xs 1)), 0) else (itoaB 0, 500)
def placeR (xs : List Int) : ByteArray × Int :=
  if rd xs 0 < 4294967296 then (itoaB (((deh 16 (rd xs 0).toNat).1 * 65536 : Nat) : Int) ++ blankB ++ itoaB (((deh 16 (rd xs 0).toNat).2 * 65536 : Nat) : Int), 0) else (itoaB 0 ++ blankB ++ itoaB 0, 500)
/-- The stretches of a box that may be. -/
def coverL (a b c d : Int) : List PG.S86 :=
  foldC (srt (gridC (a / 67108864).toNat (b / 67108864).toNat ((d / 67108864).toNat + 1 - (b / 67108864).toNat) ((c / 67108864).toNat + 1 - (a / 67108864).toNat)))
def boxOk (a b c d : Int) : Prop := 0 ≤ a ∧ a ≤ 4294967295 ∧ 0 ≤ b ∧ b ≤ 4294967295 ∧ 0 ≤ c ∧ c ≤ 4294967295 ∧ 0 ≤ d ∧ d ≤ 4294967295 ∧ a ≤ c ∧ b ≤ d
instance (a b c d : Int) : Decidable (boxOk a b c d) := by unfold boxOk; infer_instance
def tellL (rs : List PG.S86) : ByteArray := itoaB rs.length ++ blankB ++ itoaB (sumC rs)
def coversR (xs : List Int) : ByteArray × Int :=
  if boxOk (rd xs 0) (rd xs 1) (rd xs 2) (rd xs 3) then (tellL (coverL (rd xs 0) (rd xs 1) (rd xs 2) (rd xs 3)), 0) else (tellL [], 600)

theorem point_eq (xs : List Int) (i : Nat) (h : 2 * i + 1 < xs.length) (hb : xs.length ≤ 1000) : console_point.f xs (i : Int) = some (rd xs (2 * i : Nat), rd xs (2 * i + 1 : Nat)) := by
  unfold console_point.f
  rw [w64 (2 * (i : Int)) (by omega) (by omega), if_pos (by omega), if_pos (by omega), w64 (2 * (i : Int) + 1) (by omega) (by omega), if_pos (by omega), if_pos (by omega)]
  rfl

/-- What does answers at a word and numbers. -/
def Tells (wd : ByteArray) (xs : List Int) (r : ByteArray × Int) : Prop :=
  ∀ (A : Option Addr) (c : Nat) (w : World), Env w → Kd.C (Kd.int .i64) w A xs.length xs → xs.length ≤ c →
    Calls Tryz.prog 33 #[.string wd, .slice A xs.length c] w fun e w' => e = .returned (.tuple #[.string r.1, .int .i64 r.2]) ∧ Below w.heap.size w w'

set_option maxHeartbeats 1000000 in
set_option maxRecDepth 100000 in
theorem tells_of (f : Nat) (wd : ByteArray) (xs : List Int) (r : ByteArray × Int)
    (hf : f = 47 ∧ wd = ⟨#[116, 117, 114, 110]⟩ ∨ f = 48 ∧ wd = ⟨#[99, 114, 111, 115, 115]⟩ ∨ f = 49 ∧ wd = ⟨#[99, 117, 114, 118, 101]⟩ ∨ f = 50 ∧ wd = ⟨#[112, 108, 97, 99, 101]⟩ ∨ f = 51 ∧ wd = ⟨#[99, 111, 118, 101, 114]⟩ ∨ f = 52 ∧ wd = ⟨#[111, 119, 110, 101, 114]⟩)
    (h : ∀ (A : Option Addr) (c : Nat) (w : World), Env w → Kd.C (Kd.int .i64) w A xs.length xs → xs.length ≤ c →
      Calls Tryz.prog f #[.slice A xs.length c] w fun e w' => e = .returned (.tuple #[.string r.1, .int .i64 r.2]) ∧ Below w.heap.size w w') : Tells wd xs r := by
  intro A c w he hC hc
  have H := Aside0.mk (h A c w he hC hc)
  clear h he hC hc
  generalize xs.length = n at *
  rcases hf with ⟨rfl, rfl⟩ | ⟨rfl, rfl⟩ | ⟨rfl, rfl⟩ | ⟨rfl, rfl⟩ | ⟨rfl, rfl⟩ | ⟨rfl, rfl⟩
  all_goals
    go_enter Tryz.func33, Tryz.ntmps33
    go_wp2_with (first
      | (go_at_call 47; (with_reducible refine H.out.mono ?_); rintro e w1 ⟨rfl, hb⟩)
      | (go_at_call 48; (with_reducible refine H.out.mono ?_); rintro e w1 ⟨rfl, hb⟩)
      | (go_at_call 49; (with_reducible refine H.out.mono ?_); rintro e w1 ⟨rfl, hb⟩)
      | (go_at_call 50; (with_reducible refine H.out.mono ?_); rintro e w1 ⟨rfl, hb⟩)
      | (go_at_call 51; (with_reducible refine H.out.mono ?_); rintro e w1 ⟨rfl, hb⟩)
      | (go_at_call 52; (with_reducible refine H.out.mono ?_); rintro e w1 ⟨rfl, hb⟩))
    go_ret2
    exact ⟨rfl, hb⟩

theorem tells_turn (xs : List Int) (hl : xs.length = 6) : Tells ⟨#[116, 117, 114, 110]⟩ xs (turnR xs) := by
  refine tells_of 47 _ xs _ (by simp) (fun A c w he hC hc => ?_)
  have p0 : console_point.f xs 0 = some (rd xs 0, rd xs 1) := point_eq xs 0 (by omega) (by omega)
  have p1 : console_point.f xs 1 = some (rd xs 2, rd xs 3) := point_eq xs 1 (by omega) (by omega)
  have p2 : console_point.f xs 2 = some (rd xs 4, rd xs 5) := point_eq xs 2 (by omega) (by omega)
  have hT := Turn_eq 20 (rd xs 0) (rd xs 1) (rd xs 2) (rd xs 3) (rd xs 4) (rd xs 5) (by omega)
  unfold turnR
  by_cases h : okP (rd xs 0) (rd xs 1) ∧ okP (rd xs 2) (rd xs 3) ∧ okP (rd xs 4) (rd xs 5)
  · rw [if_pos h]
    rw [if_pos h] at hT
    exact turn_calls 20 A c xs _ _ _ _ _ _ _ _ w hC hc p0 p1 p2 hT (sg_cases _)
  · rw [if_neg h]
    rw [if_neg h] at hT
    exact turn_calls 20 A c xs _ _ _ _ _ _ _ _ w hC hc p0 p1 p2 hT (by omega)
theorem tells_cross (xs : List Int) (hl : xs.length = 8) : Tells ⟨#[99, 114, 111, 115, 115]⟩ xs (crossR xs) := by
  refine tells_of 48 _ xs _ (by simp) (fun A c w he hC hc => ?_)
  have p0 : console_point.f xs 0 = some (rd xs 0, rd xs 1) := point_eq xs 0 (by omega) (by omega)
  have p1 : console_point.f xs 1 = some (rd xs 2, rd xs 3) := point_eq xs 1 (by omega) (by omega)
  have p2 : console_point.f xs 2 = some (rd xs 4, rd xs 5) := point_eq xs 2 (by omega) (by omega)
  have p3 : console_point.f xs 3 = some (rd xs 6, rd xs 7) := point_eq xs 3 (by omega) (by omega)
  unfold crossR
  by_cases h : okP (rd xs 0) (rd xs 1) ∧ okP (rd xs 2) (rd xs 3) ∧ okP (rd xs 4) (rd xs 5) ∧ okP (rd xs 6) (rd xs 7)
  · rw [if_pos h]
    refine (conCross_calls A c xs _ _ _ _ _ _ _ _ _ 0 w hC hc p0 p1 p2 p3 (geomCross_ok _ _ _ _ _ _ _ _ h.1 h.2.1 h.2.2.1 h.2.2.2)).mono ?_
    rintro e w' ⟨rfl, hb⟩
    refine ⟨?_, hb⟩
    by_cases hz : crossZ (rd xs 0) (rd xs 1) (rd xs 2) (rd xs 3) (rd xs 4) (rd xs 5) (rd xs 6) (rd xs 7)
    · rw [if_pos hz, if_pos (decide_eq_true (show _ from hz))]; rfl
    · rw [if_neg hz, if_neg (by rw [decide_eq_false (show ¬ _ from hz)]; decide)]; rfl
  · rw [if_neg h]
    exact conCross_calls A c xs _ _ _ _ _ _ _ _ false 300 w hC hc p0 p1 p2 p3 (geomCross_bad _ _ _ _ _ _ _ _ h)
theorem tells_curve (xs : List Int) (hl : xs.length = 2) : Tells ⟨#[99, 117, 114, 118, 101]⟩ xs (curveR xs) := by
  refine tells_of 49 _ xs _ (by simp) (fun A c w he hC hc => ?_)
  have p0 : console_point.f xs 0 = some (rd xs 0, rd xs 1) := point_eq xs 0 (by omega) (by omega)
  have hE := Encode_eq 20 (rd xs 0) (rd xs 1) (by omega)
  unfold curveR
  by_cases h : okP (rd xs 0) (rd xs 1)
  · rw [if_pos h]
    have h' := h
    unfold okP at h'
    rw [if_pos h'] at hE
    have hr := enc_range (rd xs 0) (rd xs 1) h.2.1 h.2.2.2
    exact curve_calls 20 A c xs _ _ _ _ w he hC hc p0 hE (by show _ ≤ enc (rd xs 0) (rd xs 1); omega) (by show enc (rd xs 0) (rd xs 1) ≤ _; omega)
  · rw [if_neg h]
    have h' := h
    unfold okP at h'
    rw [if_neg h'] at hE
    exact curve_calls 20 A c xs _ _ _ _ w he hC hc p0 hE (by omega) (by omega)
theorem tells_place (xs : List Int) (hl : xs.length = 1) (h0 : 0 ≤ rd xs 0) : Tells ⟨#[112, 108, 97, 99, 101]⟩ xs (placeR xs) := by
  refine tells_of 50 _ xs _ (by simp) (fun A c w he hC hc => ?_)
  unfold placeR
  by_cases h : rd xs 0 < 4294967296
  · rw [if_pos h]
    have hD := Decode_eq 20 (rd xs 0) (by omega) h0 h
    have hb := deh_lt 16 (rd xs 0).toNat (by show _ < 4294967296; omega)
    have b1 : (deh 16 (rd xs 0).toNat).1 < 65536 := hb.1
    have b2 : (deh 16 (rd xs 0).toNat).2 < 65536 := hb.2
    exact place_calls 20 A c xs _ _ _ _ w he hC hc (by omega) rfl hD (by omega) (by omega) (by omega) (by omega)
  · rw [if_neg h]
    exact place_calls 20 A c xs _ _ _ _ w he hC hc (by omega) rfl (Decode_bad 20 (rd xs 0) (by omega) (by omega)) (by omega) (by omega) (by omega) (by omega)
theorem tells_owner (xs : List Int) (hl : xs.length = 2) (h0 : 0 ≤ rd xs 1) : Tells ⟨#[111, 119, 110, 101, 114]⟩ xs (ownerR (rd xs 0) (rd xs 1)) := by
  refine tells_of 52 _ xs _ (by simp) (fun A c w he hC hc => ?_)
  by_cases h : rd xs 0 < 1 ∨ 8 < rd xs 0
  · unfold ownerR; rw [if_pos h]
    exact conOwner_bad A c xs w he hC (by omega) h
  · exact conOwner_ok A c xs _ 0 _ w he hC (by omega) (by omega) (by omega) h0 rfl
theorem gridC_len2 (a b c d : Int) (h : boxOk a b c d) : (coverL a b c d).length ≤ 100000 := by
  unfold boxOk at h
  have h1 := foldC_length (srt (gridC (a / 67108864).toNat (b / 67108864).toNat ((d / 67108864).toNat + 1 - (b / 67108864).toNat) ((c / 67108864).toNat + 1 - (a / 67108864).toNat)))
  have h2 : (srt (gridC (a / 67108864).toNat (b / 67108864).toNat ((d / 67108864).toNat + 1 - (b / 67108864).toNat) ((c / 67108864).toNat + 1 - (a / 67108864).toNat))).length = _ := List.length_mergeSort _
  rw [h2, gridC_length] at h1
  have h3 : ((c / 67108864).toNat + 1 - (a / 67108864).toNat) * ((d / 67108864).toNat + 1 - (b / 67108864).toNat) ≤ 64 * 64 := Nat.mul_le_mul (by omega) (by omega)
  unfold coverL
  omega
theorem of_says (a b c d : Int) : OfSays a b c d (if boxOk a b c d then coverL a b c d else []) (if boxOk a b c d then 0 else 600) := by
  intro W
  by_cases h : boxOk a b c d
  · rw [if_pos h, if_pos h]
    have h' := h
    unfold boxOk at h
    obtain ⟨a', rfl⟩ := Int.eq_ofNat_of_zero_le h.1
    obtain ⟨b', rfl⟩ := Int.eq_ofNat_of_zero_le h.2.2.1
    obtain ⟨c', rfl⟩ := Int.eq_ofNat_of_zero_le h.2.2.2.2.1
    obtain ⟨d', rfl⟩ := Int.eq_ofNat_of_zero_le h.2.2.2.2.2.2.1
    refine (Of_good a' b' c' d' ((a' : Int) / 67108864).toNat ((b' : Int) / 67108864).toNat ((c' : Int) / 67108864).toNat ((d' : Int) / 67108864).toNat W (by omega) (by omega) (by omega) (by omega) (by omega) (by omega) (by omega) (by omega)).mono ?_
    rintro e w' ⟨v, rfl, hR, hb⟩
    obtain ⟨A, c2, rfl, _, hC⟩ := Kd.R_reads hR
    exact ⟨A, c2, rfl, hC, hb⟩
  · rw [if_neg h, if_neg h]
    refine (Of_bad a b c d W h).mono ?_
    rintro e w' ⟨rfl, hb⟩
    exact ⟨none, 0, rfl, Kd.C_nil _ _, hb⟩
theorem tells_cover (xs : List Int) (hl : xs.length = 4) : Tells ⟨#[99, 111, 118, 101, 114]⟩ xs (coversR xs) := by
  refine tells_of 51 _ xs _ (by simp) (fun A c w he hC hc => ?_)
  have ho := of_says (rd xs 0) (rd xs 1) (rd xs 2) (rd xs 3)
  unfold coversR
  by_cases h : boxOk (rd xs 0) (rd xs 1) (rd xs 2) (rd xs 3)
  · rw [if_pos h, if_pos h] at ho
    rw [if_pos h]
    exact covers_calls A c xs _ _ _ _ _ _ w he hC (by omega) rfl rfl rfl rfl ho (gridC_len2 _ _ _ _ h)
  · rw [if_neg h, if_neg h] at ho
    rw [if_neg h]
    exact covers_calls A c xs _ _ _ _ _ _ w he hC (by omega) rfl rfl rfl rfl ho (by simp)
end Go.Proofs.YtibakeahgcakmaaGreatDoor
