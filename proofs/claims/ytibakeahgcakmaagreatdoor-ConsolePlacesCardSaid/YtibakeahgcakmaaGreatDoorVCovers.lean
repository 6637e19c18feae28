/- What the command cover tells. -/
import Derived.Test.YtibakeahgcakmaaGreatDoorVCover
set_option linter.unusedVariables false
namespace Go.Proofs.YtibakeahgcakmaaGreatDoor
open Go.Shelf Go.RowKit Go.Proofs.YtibakeahgcakmaaGreatDoorW.PrintWords Go.Proofs.YtibakeahgcakmaaGreatDoorW.PrintLast Go.Proofs.YtibakeahgcakmaaGreatDoorW.PrintMore PF Curve

/-- How many places stretches have. -/
def sumC (l : List PG.S86) : Int := l.foldl (fun acc r => wrap64 (acc + wrap64 (r.f1 - r.f0))) 0
theorem sumC_snoc (l : List PG.S86) (r : PG.S86) : sumC (l ++ [r]) = wrap64 (sumC l + wrap64 (r.f1 - r.f0)) := by
  unfold sumC; rw [List.foldl_append]; rfl
theorem wrap64_range (x : Int) : -9223372036854775808 ≤ wrap64 x ∧ wrap64 x ≤ 9223372036854775807 := by unfold wrap64; omega
theorem sumC_range (l : List PG.S86) : -9223372036854775808 ≤ sumC l ∧ sumC l ≤ 9223372036854775807 := by
  rcases List.eq_nil_or_concat l with rfl | ⟨l', r, rfl⟩
  · simp [sumC]
  · rw [List.concat_eq_append, sumC_snoc]; exact wrap64_range _

/-- What Of tells behind the reading of four numbers. -/
def OfSays (a b c d : Int) (v1 : List PG.S86) (e1 : Int) : Prop :=
  ∀ W : World, Calls Tryz.prog 68 #[.agg #[.int .i64 a, .int .i64 b, .int .i64 c, .int .i64 d]] W fun e w' => ∃ A c', e = .returned (.tuple #[.slice A v1.length c', .int .i64 e1]) ∧ Kd.C PG.k86 w' A v1.length v1 ∧ Below W.heap.size W w'

set_option maxHeartbeats 4000000 in
set_option maxRecDepth 100000 in
theorem covers_calls (A : Option Addr) (c : Nat) (l : List Int) (x0 x1 x2 x3 : Int) (rs : List PG.S86) (e2 : Int) (w : World) (he : Env w) (hr : Kd.C (Kd.int .i64) w A l.length l) (hl : 3 < l.length)
    (h0 : rd l 0 = x0) (h1 : rd l 1 = x1) (h2 : rd l 2 = x2) (h3 : rd l 3 = x3) (hof : OfSays x0 x1 x2 x3 rs e2) (hrs : rs.length ≤ 100000) :
    Calls Tryz.prog 51 #[.slice A l.length c] w fun e w' => e = .returned (.tuple #[.string (itoaB rs.length ++ blankB ++ itoaB (sumC rs)), .int .i64 e2]) ∧ Below w.heap.size w w' := by
  obtain ⟨ad, rfl, k0⟩ := Kd.at_int hr 0 (by omega) (by omega)
  obtain ⟨ad1, e1, k1⟩ := Kd.at_int hr 1 (by omega) (by omega)
  cases e1
  obtain ⟨ad2, e2', k2⟩ := Kd.at_int hr 2 (by omega) (by omega)
  cases e2'
  obtain ⟨ad3, e3, k3⟩ := Kd.at_int hr 3 (by omega) (by omega)
  cases e3
  rw [h0] at k0; rw [h1] at k1; rw [h2] at k2; rw [h3] at k3
  clear h0 h1 h2 h3
  have q0 : w.cell? ad = some (.int .i64 x0) := by rw [show ad.add (Int.toNat 0) = ad from by cases ad; simp [Addr.add]] at k0; exact k0
  have q1 : w.cell? ⟨ad.block, ad.off + 1, none⟩ = some (.int .i64 x1) := k1
  have q2 : w.cell? ⟨ad.block, ad.off + 2, none⟩ = some (.int .i64 x2) := k2
  have q3 : w.cell? ⟨ad.block, ad.off + 3, none⟩ = some (.int .i64 x3) := k3
  clear k0 k1 k2 k3
  have g0 : (0 : Int) < (l.length : Int) := by omega
  have g1 : (1 : Int) < (l.length : Int) := by omega
  have g2 : (2 : Int) < (l.length : Int) := by omega
  have g3 : (3 : Int) < (l.length : Int) := by omega
  unfold OfSays at hof
  have HOF := Aside0.mk hof
  clear hof hr
  generalize l.length = n at *
  have n0 : 0 < n := by omega
  go_enter Tryz.func51, Tryz.ntmps51
  go_wp2
  go_region_held3 (fun w' => w'.cell? ad = some (.int .i64 x0) ∧ w'.cell? ⟨ad.block, ad.off + 1, none⟩ = some (.int .i64 x1) ∧ w'.cell? ⟨ad.block, ad.off + 2, none⟩ = some (.int .i64 x2) ∧ w'.cell? ⟨ad.block, ad.off + 3, none⟩ = some (.int .i64 x3) ∧ Aside0 (Below w.heap.size w w'))
    (first | (go_split_ands; refine ⟨?_, ?_, ?_, ?_, ?_⟩ <;> first | assumption | exact pw_cell_below ‹_› ‹_› | exact ⟨below_step (Aside0.out ‹_›) ‹_›⟩ | exact ⟨below_drew (Below.refl _ _)⟩))
    (first
      | (go_at_call 68; (with_reducible refine (HOF.out _).mono ?_); rintro e w' ⟨Ar, cr, rfl, hC, hb⟩; have HCr := Aside0.mk hC; clear hC))
  go_split_ands
  rename_i hz
  go_wp2
  have hsr := sumC_range rs
  go_loopw [6, 28] (fun s6 s28 wz => ∃ i : Nat, i ≤ rs.length ∧ s28 = .int .i64 (i : Int) ∧ s6 = .int .i64 (sumC (rs.take i)) ∧ Aside0 (Below w'.heap.size w' wz)) (fun _ s28 _ => rs.length - (intOf s28).toNat)
  case atStart => exact ⟨0, by omega, rfl, rfl, ⟨Below.refl _ _⟩⟩
  case round =>
    obtain ⟨i, hi, rfl, rfl, hW⟩ := hrel
    by_cases hlt : i < rs.length
    · have hr2 := sumC_snoc (rs.take i) (PG.rd_T86 rs i)
      obtain ⟨ad, ead, m0, m1⟩ := PG.at_T86 (Kd.C_below HCr.out hW.out) (i : Int) (by omega) (by omega)
      rw [Int.toNat_natCast] at m0 m1
      have htk : rs.take (i + 1) = rs.take i ++ [PG.rd_T86 rs i] := by
        rw [List.take_succ_eq_append_getElem hlt]; congr 2
        unfold PG.rd_T86; rw [Int.toNat_natCast, List.getD_eq_getElem?_getD, List.getElem?_eq_getElem hlt]; rfl
      rw [← htk] at hr2
      have HR2 := Aside0.mk hr2
      clear hr2 htk
      go_wp2
      go_roundw
      case rel => exact ⟨i + 1, by omega, by go_num, by rw [HR2.out], ⟨below_alloc hW.out _⟩⟩
      case measure => simp [intOf]; omega
    · obtain rfl : i = rs.length := by omega
      have hz2 : Below w.heap.size w wr := below_step hz.out hW.out
      rw [List.take_length]
      have sx := itoaB_size (rs.length : Int) (by omega) (by omega)
      have sy := itoaB_size (sumC rs) hsr.1 hsr.2
      have q1 : ¬ 9223372036854775807 < (itoaB (rs.length : Int)).size + 1 := by omega
      have q2 : ¬ 9223372036854775807 < (itoaB (rs.length : Int)).size + 1 + (itoaB (sumC rs)).size := by omega
      go_wp2_with (first
        | (go_at_call_of 46 (Value.int .i64 (rs.length : Int)); (with_reducible refine (itoa_calls (rs.length : Int) (by omega) (by omega) _ (he.below hz2)).mono ?_); rintro e w4 ⟨rfl, hsz, hb4⟩)
        | (go_at_call_of 46 (Value.int .i64 (sumC rs)); (with_reducible refine (itoa_calls (sumC rs) hsr.1 hsr.2 _ (he.below (below_step hz2 hb4))).mono ?_); rintro e w5 ⟨rfl, hsz5, hb5⟩))
      go_ret2
      exact ⟨rfl, below_step (below_step hz2 hb4) hb5⟩
end Go.Proofs.YtibakeahgcakmaaGreatDoor
