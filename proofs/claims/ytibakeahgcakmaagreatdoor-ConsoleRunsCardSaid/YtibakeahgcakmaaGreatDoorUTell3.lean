/- The library's sort of a slice of numbers that the call itself made, in the words of the print. -/
import Derived.Test.YtibakeahgcakmaaGreatDoorUTell
import Derived.Sort.OwnSortedInts
import Derived.Deep.RegionHeld3
import Derived.Deep.MidRow
import Derived.Test.YtibakeahgcakmaaGreatDoorUPFx8
import Derived.Deep.QuietTactic
import Derived.BigQuiet
set_option linter.unusedVariables false
namespace Go.Proofs.YtibakeahgcakmaaGreatDoor
open Go.Shelf Go.RowKit Go.Proofs.YtibakeahgcakmaaGreatDoorW.PrintWords Go.Proofs.YtibakeahgcakmaaGreatDoorW.PrintLast Go.Proofs.YtibakeahgcakmaaGreatDoorW.PrintMore

def srt (l : List Int) : List Int := l.mergeSort fun x y => decide (x ≤ y)
theorem sort_calls (B : Nat) (ok : Nat → Prop) (v : Value) (l : List Int) (w : World) (hl : l.length < 4611686018427387904) (hR : Kd.R (Kd.int .i64) 3 w B ok v l) :
    Calls Tryz.prog 86 #[v] w fun e w' => e = .returned (.tuple #[]) ∧ Kd.R (Kd.int .i64) 3 w' B ok v (srt l) ∧ w.grownBy w' v.ownBlock := by
  have ho := Kd.own_of_R hR
  have hlen : (srt l).length = l.length := List.length_mergeSort l
  rcases ho.2 with ⟨rfl, h0⟩ | ⟨g, cap, cur, rfl, hbase, hb, h1, h2, h3, h4⟩
  · have : l = [] := List.length_eq_zero_iff.1 h0
    subst this
    refine (Tryz.slices_Sort_int_none none 0 w).mono ?_
    rintro e w' ⟨rfl, rfl⟩
    exact ⟨rfl, by rw [show srt [] = [] from by simp [srt]]; exact hR, World.grownBy.refl _ _⟩
  · have hH : Go.Sort.Holds (Value.int .i64) w g 0 l.toArray := holds_of_blockI hb (by simpa [encs] using h4)
    refine (Tryz.slices_Sort_int g 0 cap l w hH (Array.getElem?_eq_some_iff.1 hb).1 hl).mono ?_
    rintro e w' ⟨rfl, n, os, rfl⟩
    refine ⟨rfl, ?_, grownBy_sortedI _⟩
    have hs := ownsRow_sortedI (n := n) (os := os) (ts := srt l) hlen hbase hb h1 h2 h3
    exact Kd.R_of_own (by rw [hlen]; exact hs) hR.1
end Go.Proofs.YtibakeahgcakmaaGreatDoor
/- What the console's commands tell, second part: place, owner. -/
set_option linter.unusedVariables false
namespace Go.Proofs.YtibakeahgcakmaaGreatDoor
open Go.Shelf Go.RowKit Go.Proofs.YtibakeahgcakmaaGreatDoorW.PrintWords Go.Proofs.YtibakeahgcakmaaGreatDoorW.PrintLast Go.Proofs.YtibakeahgcakmaaGreatDoorW.PrintMore PF
def blankB : ByteArray := ⟨#[32]⟩
set_option maxHeartbeats 1000000 in
set_option maxRecDepth 100000 in
theorem place_calls (k : Nat) (A : Option Addr) (c : Nat) (l : List Int) (d x y e2 : Int) (w : World) (he : Env w) (hr : Kd.C (Kd.int .i64) w A l.length l) (hc : l.length ≤ c)
    (hl : 0 < l.length) (hd : rd l 0 = d) (hh : hilbert_Decode.f k d = some (x, y, e2)) (hx0 : -9223372036854775808 ≤ x) (hx1 : x ≤ 9223372036854775807) (hy0 : -9223372036854775808 ≤ y) (hy1 : y ≤ 9223372036854775807) :
    Calls Tryz.prog 50 #[.slice A l.length c] w fun e w' => e = .returned (.tuple #[.string (itoaB x ++ blankB ++ itoaB y), .int .i64 e2]) ∧ Below w.heap.size w w' := by
  obtain ⟨ad, rfl, hcell⟩ := Kd.at_int hr 0 (by omega) (by omega)
  rw [hd] at hcell
  have hcell0 : w.cell? ad = some (.int .i64 d) := by rw [show ad.add (Int.toNat 0) = ad from by cases ad; simp [Addr.add]] at hcell; exact hcell
  clear hcell
  go_enter Tryz.func50, Tryz.ntmps50
  go_wp2_with (first
    | (go_at_call 67; (with_reducible refine (hilbert_Decode.calls k d x y e2 _ hh).mono ?_); rintro e w1 ⟨rfl, hb1⟩))
  have hA : Below w.heap.size w (w1.alloc (.cells #[.int .i64 x, .int .i64 y] 38)) := below_alloc hb1 _
  have hs1 := hb1.size
  generalize hW : w1.alloc (.cells #[.int .i64 x, .int .i64 y] 38) = wA at hA ⊢
  have c0 : wA.cell? ⟨w1.heap.size, 0, none⟩ = some (.int .i64 x) := by rw [← hW]; simp
  have c1 : wA.cell? ⟨w1.heap.size, 1, none⟩ = some (.int .i64 y) := by rw [← hW]; simp
  have HW := Lib.hid hW
  have sx := itoaB_size x hx0 hx1
  have sy := itoaB_size y hy0 hy1
  have q1 : ¬ 9223372036854775807 < (itoaB x).size + 1 := by omega
  have q2 : ¬ 9223372036854775807 < (itoaB x).size + 1 + (itoaB y).size := by omega
  clear hW
  go_region_held3 (fun w' => w'.cell? ⟨w1.heap.size, 0, none⟩ = some (.int .i64 x) ∧ w'.cell? ⟨w1.heap.size, 1, none⟩ = some (.int .i64 y) ∧ Aside0 (Below w.heap.size w w'))
    (first | (go_split_ands; refine ⟨?_, ?_, ?_⟩ <;> first | assumption | exact pw_cell_below ‹_› ‹_› | exact ⟨below_step (Aside0.out ‹_›) ‹_›⟩ | exact ⟨below_drew hA⟩))
    (first
      | (go_at_call_of 46 (Value.int .i64 x); (with_reducible refine (itoa_calls x hx0 hx1 _ ?_).mono ?_); (go_split_ands; exact he.below (Aside0.out ‹_›)); rintro e w' ⟨rfl, hsz, hb⟩)
      | (go_at_call_of 46 (Value.int .i64 y); (with_reducible refine (itoa_calls y hy0 hy1 _ ?_).mono ?_); (go_split_ands; exact he.below (Aside0.out ‹_›)); rintro e w' ⟨rfl, hsz, hb⟩))
  all_goals go_wp2
  all_goals go_ret2
  all_goals (go_split_ands; exact ⟨rfl, Aside0.out ‹_›⟩)
end Go.Proofs.YtibakeahgcakmaaGreatDoor
/- What the console's commands tell, third part: the owner of a place. -/
set_option linter.unusedVariables false
namespace Go.Proofs.YtibakeahgcakmaaGreatDoor
open Go.Shelf Go.RowKit Go.Proofs.YtibakeahgcakmaaGreatDoorW.PrintWords Go.Proofs.YtibakeahgcakmaaGreatDoorW.PrintLast Go.Proofs.YtibakeahgcakmaaGreatDoorW.PrintMore PF

def atI (S : List Int) (d : Int) : Int := if S.contains d = true then (S.countP (· < d) : Nat) else (S.countP (· < d) : Nat) - 1
def Quiet (w : World) (r : Int) (e : Ending) (w' : World) : Prop := e = .returned (.int .i64 r) ∧ ∃ q, w' = w.drewN q

theorem cells_int {w : World} {g c : Nat} {S : List Int} (h : Kd.C (Kd.int .i64) w (some ⟨g, 0, none⟩) S.length S) : ∀ j, j < S.length → w.cell? ⟨g, 0 + j, none⟩ = some (.int .i64 (S.getD j 0)) := by
  intro j hj
  obtain ⟨ad, e, hc⟩ := Kd.at_int h (j : Int) (by omega) (by omega)
  cases e
  rw [add_plain, Int.toNat_natCast] at hc
  rw [Nat.zero_add]
  exact hc

set_option maxHeartbeats 1000000 in
theorem at_calls (b g c : Nat) (S : List Int) (d : Int) (w : World) (hcell : w.cell? ⟨b, 1, none⟩ = some (.slice (some ⟨g, 0, none⟩) S.length c)) (hS : Kd.C (Kd.int .i64) w (some ⟨g, 0, none⟩) S.length S)
    (hsrt : S.Pairwise (· ≤ ·)) (hl : S.length ≤ 100) : Calls Tryz.prog 89 #[.pointer (some ⟨b, 0, none⟩), .int .i64 d] w (Quiet w (atI S d)) := by
  have hcnt : S.countP (· < d) ≤ S.length := List.countP_le_length
  have cS := Tryz.slices_BinarySearch_int g 0 S.length c S d w (Nat.le_refl _) (by omega) (cells_int (c := c) hS) (by rw [List.take_length]; exact hsrt)
  rw [List.take_length] at cS
  by_cases hm : S.contains d = true
  · have hat : atI S d = (S.countP (· < d) : Nat) := by unfold atI; rw [if_pos hm]
    rw [hm] at cS
    rw [hat]
    generalize S.countP (· < d) = n at cS hcnt ⊢
    clear hm hat
    go_enter Tryz.func89, Tryz.ntmps89
    go_wp2_with (go_at_call 106; (with_reducible refine cS.mono ?_); rintro e w1 ⟨rfl, hq⟩)
    go_ret
    exact ⟨rfl, hq⟩
  · have hm' : S.contains d = false := by simpa using hm
    have hat : atI S d = (S.countP (· < d) : Nat) - 1 := by unfold atI; rw [if_neg hm]
    rw [hm'] at cS
    rw [hat]
    generalize S.countP (· < d) = n at cS hcnt ⊢
    clear hm hm' hat
    go_enter Tryz.func89, Tryz.ntmps89
    go_wp2_with (go_at_call 106; (with_reducible refine cS.mono ?_); rintro e w1 ⟨rfl, hq⟩)
    go_ret
    exact ⟨rfl, hq⟩

set_option maxHeartbeats 1000000 in
set_option maxRecDepth 100000 in
theorem at_calls' (b g c : Nat) (S : List Int) (d i : Int) (w : World) (hcell : w.cell? ⟨b, 1, none⟩ = some (.slice (some ⟨g, 0, none⟩) S.length c)) (hS : Kd.C (Kd.int .i64) w (some ⟨g, 0, none⟩) S.length S)
    (hsrt : S.Pairwise (· ≤ ·)) (hl : S.length ≤ 100) (hi : Aside0 (atI S d = i)) : Calls Tryz.prog 89 #[.pointer (some ⟨b, 0, none⟩), .int .i64 d] w (fun e w' => e = .returned (.int .i64 i) ∧ ∃ m, w' = w.drewN m) := by
  have := at_calls b g c S d w hcell hS hsrt hl
  rw [hi.out] at this
  exact this
set_option maxHeartbeats 1000000 in
set_option maxRecDepth 100000 in
theorem owner_calls (k : Nat) (g gO c cO : Nat) (ep : Int) (S O : List Int) (d : Int) (w : World) (hS : Kd.C (Kd.int .i64) w (some ⟨g, 0, none⟩) S.length S) (hO : Kd.C (Kd.int .i64) w (some ⟨gO, 0, none⟩) O.length O) (hc : S.length ≤ c) (hcO : O.length ≤ cO)
    (hsrt : S.Pairwise (· ≤ ·)) (hl : S.length ≤ 100) (hm : smap_May.f k ep S O 8 = some true) (hd0 : 0 ≤ d) (hd1 : d < 4294967296) (hi0 : 0 ≤ atI S d) (hi1 : atI S d < O.length) :
    Calls Tryz.prog 70 #[.agg #[.int .i64 ep, .slice (some ⟨g, 0, none⟩) S.length c, .slice (some ⟨gO, 0, none⟩) O.length cO], .int .i64 d] w fun e w' => e = .returned (.tuple #[.int .i64 (rd O (atI S d)), .int .i64 0]) ∧ Below w.heap.size w w' := by
  obtain ⟨ad, ead, hcell⟩ := Kd.at_int hO (atI S d) hi0 hi1
  cases ead
  rw [add_plain] at hcell
  have lO := World.block_lt_of_cell? w _ hcell
  generalize hii : atI S d = ii at hi0 hi1 hcell ⊢
  have HI := Aside0.mk hii
  clear hii
  have hd2 : decide (d < 0) = false := by simpa using hd0
  have hd3 : decide (4294967296 ≤ d) = false := by simpa using hd1
  go_enter Tryz.func70, Tryz.ntmps70
  go_wp2_with (first
    | (go_at_call 88; (with_reducible refine (smap_May.calls k ep _ c S _ cO O 8 true _ ?c1 hc ?c2 hcO hm).mono ?_); (case c1 => repeat (first | exact hS | (with_reducible refine Kd.C_alloc ?_ _))); (case c2 => repeat (first | exact hO | (with_reducible refine Kd.C_alloc ?_ _))); rintro e w1 ⟨rfl, hb1⟩))
  have c1 : w1.cell? ⟨w.heap.size, 1, none⟩ = some (.slice (some ⟨g, 0, none⟩) S.length c) := pw_cell_below hb1 (by simp)
  have c2 : w1.cell? ⟨w.heap.size, 2, none⟩ = some (.slice (some ⟨gO, 0, none⟩) O.length cO) := pw_cell_below hb1 (by simp)
  have cO' : w1.cell? ⟨gO, ii.toNat, none⟩ = some (.int .i64 (rd O ii)) := pw_cell_below hb1 ((Below.cell (below_alloc (Below.refl _ w) _) lO).trans hcell)
  have hS1 : Kd.C (Kd.int .i64) w1 (some ⟨g, 0, none⟩) S.length S := Kd.C_below (Kd.C_alloc hS _) hb1
  have hA := below_step (below_alloc (Below.refl _ w) _) hb1
  go_quiet ((go_at_call 89; exact Calls.quiet_of (at_calls' _ g c S d ii _ c1 (Kd.C_drewN hS1 _) hsrt hl HI)))
  go_wp2
  go_ret2
  exact ⟨rfl, pw_below_drewN hA _⟩

set_option maxHeartbeats 1000000 in
set_option maxRecDepth 100000 in
theorem owner_bad (k : Nat) (g gO c cO : Nat) (ep : Int) (S O : List Int) (d : Int) (w : World) (hS : Kd.C (Kd.int .i64) w (some ⟨g, 0, none⟩) S.length S) (hO : Kd.C (Kd.int .i64) w (some ⟨gO, 0, none⟩) O.length O) (hc : S.length ≤ c) (hcO : O.length ≤ cO)
    (hm : smap_May.f k ep S O 8 = some true) (hd0 : 0 ≤ d) (hd1 : 4294967296 ≤ d) :
    Calls Tryz.prog 70 #[.agg #[.int .i64 ep, .slice (some ⟨g, 0, none⟩) S.length c, .slice (some ⟨gO, 0, none⟩) O.length cO], .int .i64 d] w fun e w' => e = .returned (.tuple #[.int .i64 0, .int .i64 700]) ∧ Below w.heap.size w w' := by
  have hd2 : decide (d < 0) = false := by simpa using hd0
  have hd3 : decide (4294967296 ≤ d) = true := by simpa using hd1
  go_enter Tryz.func70, Tryz.ntmps70
  go_wp2_with (first
    | (go_at_call 88; (with_reducible refine (smap_May.calls k ep _ c S _ cO O 8 true _ ?c1 hc ?c2 hcO hm).mono ?_); (case c1 => repeat (first | exact hS | (with_reducible refine Kd.C_alloc ?_ _))); (case c2 => repeat (first | exact hO | (with_reducible refine Kd.C_alloc ?_ _))); rintro e w1 ⟨rfl, hb1⟩))
  go_ret2
  exact ⟨rfl, below_step (below_alloc (Below.refl _ w) _) hb1⟩

def startsL (n : Int) : List Int := (List.range n.toNat).map fun (i : Nat) => (i : Int) * 4294967296 / n
def ownersL (n : Int) : List Int := (List.range n.toNat).map fun (i : Nat) => (i : Int)
theorem first_eq (n : Int) (h0 : 1 ≤ n) (h1 : n ≤ 8) : smap_First.f 30 n = some (1, startsL n, ownersL n, 0) ∧ smap_May.f 60 1 (startsL n) (ownersL n) 8 = some true ∧ (startsL n).Pairwise (· ≤ ·) ∧ (startsL n).length = n.toNat ∧ (ownersL n).length = n.toNat := by
  have : n = 1 ∨ n = 2 ∨ n = 3 ∨ n = 4 ∨ n = 5 ∨ n = 6 ∨ n = 7 ∨ n = 8 := by omega
  rcases this with rfl | rfl | rfl | rfl | rfl | rfl | rfl | rfl <;> decide +kernel
theorem first_bad (n : Int) (h : n < 1 ∨ 8 < n) : smap_First.f 30 n = some (0, [], [], 700) := by
  unfold smap_First.f
  by_cases h1 : n < 1
  · rw [if_pos h1]; rfl
  · rw [if_neg h1, decide_eq_true (show n > 8 by omega)]; rfl

def ownerR (x0 x1 : Int) : ByteArray × Int :=
  if x0 < 1 ∨ 8 < x0 then (⟨#[]⟩, 700) else if 4294967296 ≤ x1 then (itoaB 0, 700) else (itoaB (rd (ownersL x0) (atI (startsL x0) x1)), 0)

theorem at_in (n d : Int) (h0 : 1 ≤ n) (h1 : n ≤ 8) (hd : 0 ≤ d) : 0 ≤ atI (startsL n) d ∧ atI (startsL n) d < n := by
  have hlen := (first_eq n h0 h1).2.2.2.1
  have hcnt : (startsL n).countP (· < d) ≤ (startsL n).length := List.countP_le_length
  have h0m : (0 : Int) ∈ startsL n := by
    unfold startsL
    rw [List.mem_map]
    exact ⟨0, by simp; omega, by simp⟩
  unfold atI
  by_cases hm : (startsL n).contains d = true
  · rw [if_pos hm]
    refine ⟨by omega, ?_⟩
    have hlt : (startsL n).countP (· < d) < (startsL n).length := by
      refine Nat.lt_of_le_of_ne hcnt (fun e => ?_)
      have := List.countP_eq_length.1 e d (by simpa using hm)
      simp at this
    omega
  · rw [if_neg hm]
    have hpos : 0 < (startsL n).countP (· < d) := by
      apply List.countP_pos_iff.2
      refine ⟨0, h0m, ?_⟩
      have : d ≠ 0 := fun e => hm (by subst e; simpa using h0m)
      simp; omega
    omega

set_option maxHeartbeats 1000000 in
set_option maxRecDepth 100000 in
theorem conOwner_bad (A : Option Addr) (c : Nat) (l : List Int) (w : World) (he : Env w) (hr : Kd.C (Kd.int .i64) w A l.length l) (hl : 1 < l.length) (hb0 : rd l 0 < 1 ∨ 8 < rd l 0) :
    Calls Tryz.prog 52 #[.slice A l.length c] w fun e w' => e = .returned (.tuple #[.string ⟨#[]⟩, .int .i64 700]) ∧ Below w.heap.size w w' := by
  obtain ⟨ad, rfl, hcell⟩ := Kd.at_int hr 0 (by omega) (by omega)
  have hf := first_bad (rd l 0) hb0
  generalize rd l 0 = x0 at *
  have hcell0 : w.cell? ad = some (.int .i64 x0) := by rw [show ad.add (Int.toNat 0) = ad from by cases ad; simp [Addr.add]] at hcell; exact hcell
  clear hcell
  go_enter Tryz.func52, Tryz.ntmps52
  go_wp2_with (first
    | (go_at_call 69; (with_reducible refine (smap_First.calls 30 x0 0 [] [] 700 _ hf).mono ?_); rintro e w1 ⟨v1, v2, rfl, hr1, hr2, hb1⟩; obtain ⟨A1, c1, rfl⟩ := Kd.R_slice hr1; obtain ⟨A2, c2, rfl⟩ := Kd.R_slice hr2))
  go_ret2
  exact ⟨rfl, below_alloc hb1 _⟩

set_option maxHeartbeats 2000000 in
set_option maxRecDepth 100000 in
theorem conOwner_ok (A : Option Addr) (c : Nat) (l : List Int) (s : ByteArray) (r e2 : Int) (w : World) (he : Env w) (hr : Kd.C (Kd.int .i64) w A l.length l) (hl : 1 < l.length) (hb0 : 1 ≤ rd l 0) (hb1 : rd l 0 ≤ 8) (hd0 : 0 ≤ rd l 1)
    (hs : ownerR (rd l 0) (rd l 1) = (s, e2)) :
    Calls Tryz.prog 52 #[.slice A l.length c] w fun e w' => e = .returned (.tuple #[.string s, .int .i64 e2]) ∧ Below w.heap.size w w' := by
  obtain ⟨ad, rfl, hcell⟩ := Kd.at_int hr 0 (by omega) (by omega)
  obtain ⟨ad', e', hcell2⟩ := Kd.at_int hr 1 (by omega) (by omega)
  cases e'
  obtain ⟨hf, hmay, hsrt, hls, hlo⟩ := first_eq (rd l 0) hb0 hb1
  have hat := at_in (rd l 0) (rd l 1) hb0 hb1 hd0
  unfold ownerR at hs
  rw [if_neg (by omega)] at hs
  generalize rd l 0 = x0 at *
  generalize rd l 1 = x1 at *
  have hcell0 : w.cell? ad = some (.int .i64 x0) := by rw [show ad.add (Int.toNat 0) = ad from by cases ad; simp [Addr.add]] at hcell; exact hcell
  have hcell1 : w.cell? ⟨ad.block, ad.off + 1, none⟩ = some (.int .i64 x1) := hcell2
  clear hcell hcell2
  have hl1 : (1 : Int) < (l.length : Int) := by omega
  have hmo : 0 ≤ rd (ownersL x0) (atI (startsL x0) x1) ∧ rd (ownersL x0) (atI (startsL x0) x1) ≤ 8 := by
    unfold rd ownersL
    rw [List.getD_eq_getElem?_getD, List.getElem?_map]
    cases hq : (List.range x0.toNat)[(atI (startsL x0) x1).toNat]? with
    | none => simp
    | some v =>
      have hv := List.mem_range.1 (List.mem_of_getElem? hq)
      simp; omega
  have cF := smap_First.calls 30 x0 1 (startsL x0) (ownersL x0) 0 w hf
  generalize hS : startsL x0 = S at *
  generalize hO : ownersL x0 = O at *
  clear hS hO hf
  have hlO : 0 < O.length := by omega
  have hlS : 0 < S.length := by omega
  have HLS : Aside0 (S.length ≤ 8) := ⟨by omega⟩
  have HAT : Aside0 (0 ≤ atI S x1 ∧ atI S x1 < O.length) := ⟨by omega⟩
  clear hls hlo hat
  obtain ⟨ro, e3, hcall, hfin, hro⟩ : ∃ ro e3, (∀ (g1 c1 g2 c2 : Nat) (W : World), Kd.C (Kd.int .i64) W (some ⟨g1, 0, none⟩) S.length S → Kd.C (Kd.int .i64) W (some ⟨g2, 0, none⟩) O.length O → S.length ≤ c1 → O.length ≤ c2 →
      Calls Tryz.prog 70 #[.agg #[.int .i64 1, .slice (some ⟨g1, 0, none⟩) S.length c1, .slice (some ⟨g2, 0, none⟩) O.length c2], .int .i64 x1] W fun e w' => e = .returned (.tuple #[.int .i64 ro, .int .i64 e3]) ∧ Below W.heap.size W w') ∧ Aside0 ((s, e2) = (itoaB ro, e3)) ∧ (0 ≤ ro ∧ ro ≤ 8) := by
    by_cases hbig : 4294967296 ≤ x1
    · rw [if_pos hbig] at hs
      exact ⟨0, 700, fun g1 c1 g2 c2 W h1 h2 h3 h4 => owner_bad 60 g1 g2 c1 c2 1 S O x1 W h1 h2 h3 h4 hmay hd0 hbig, ⟨hs.symm⟩, by omega⟩
    · rw [if_neg hbig] at hs
      exact ⟨_, 0, fun g1 c1 g2 c2 W h1 h2 h3 h4 => owner_calls 60 g1 g2 c1 c2 1 S O x1 W h1 h2 h3 h4 hsrt (by have := HLS.out; omega) hmay hd0 (by omega) HAT.out.1 HAT.out.2, ⟨hs.symm⟩, hmo⟩
  clear hs hmay hmo hsrt
  have HC := Aside0.mk hcall
  have HF := Aside0.mk cF
  clear hcall cF
  go_enter Tryz.func52, Tryz.ntmps52
  go_wp2_with (go_at_call 69; (with_reducible refine HF.out.mono ?_); rintro e w1 ⟨v1, v2, rfl, hr1, hr2, hb1⟩; obtain ⟨g1, c1, rfl, _, hg1, _⟩ := Kd.R_form hr1 hlS; obtain ⟨g2, c2, rfl, _, hg2, _⟩ := Kd.R_form hr2 hlO)
  obtain ⟨_, l1, k1⟩ := Kd.R_reads' hr1
  obtain ⟨_, l2, k2⟩ := Kd.R_reads' hr2
  have hA : Below w.heap.size w (w1.alloc (.cells #[.int .i64 1, .slice (some ⟨g1, 0, none⟩) S.length c1, .slice (some ⟨g2, 0, none⟩) O.length c2] 88)) := below_alloc hb1 _
  have k1' := Kd.C_alloc k1 (.cells #[.int .i64 1, .slice (some ⟨g1, 0, none⟩) S.length c1, .slice (some ⟨g2, 0, none⟩) O.length c2] 88)
  have k2' := Kd.C_alloc k2 (.cells #[.int .i64 1, .slice (some ⟨g1, 0, none⟩) S.length c1, .slice (some ⟨g2, 0, none⟩) O.length c2] 88)
  clear hr1 hr2 k1 k2
  have q0 : (w1.alloc (.cells #[.int .i64 1, .slice (some ⟨g1, 0, none⟩) S.length c1, .slice (some ⟨g2, 0, none⟩) O.length c2] 88)).cell? ⟨w1.heap.size, 0, none⟩ = some (.int .i64 1) := by simp
  have q1 : (w1.alloc (.cells #[.int .i64 1, .slice (some ⟨g1, 0, none⟩) S.length c1, .slice (some ⟨g2, 0, none⟩) O.length c2] 88)).cell? ⟨w1.heap.size, 1, none⟩ = some (.slice (some ⟨g1, 0, none⟩) S.length c1) := by simp
  have q2 : (w1.alloc (.cells #[.int .i64 1, .slice (some ⟨g1, 0, none⟩) S.length c1, .slice (some ⟨g2, 0, none⟩) O.length c2] 88)).cell? ⟨w1.heap.size, 2, none⟩ = some (.slice (some ⟨g2, 0, none⟩) O.length c2) := by simp
  have q3 := pw_cell_below hA hcell1
  generalize w1.alloc (.cells #[.int .i64 1, .slice (some ⟨g1, 0, none⟩) S.length c1, .slice (some ⟨g2, 0, none⟩) O.length c2] 88) = wA at hA k1' k2' q0 q1 q2 q3 ⊢
  go_region_held3 (fun w' => w'.cell? ⟨w1.heap.size, 0, none⟩ = some (.int .i64 1) ∧ w'.cell? ⟨w1.heap.size, 1, none⟩ = some (.slice (some ⟨g1, 0, none⟩) S.length c1) ∧ w'.cell? ⟨w1.heap.size, 2, none⟩ = some (.slice (some ⟨g2, 0, none⟩) O.length c2) ∧ w'.cell? ⟨ad.block, ad.off + 1, none⟩ = some (.int .i64 x1) ∧ Aside0 (Below wA.heap.size wA w'))
    (first | (go_split_ands; refine ⟨?_, ?_, ?_, ?_, ?_⟩ <;> first | assumption | exact pw_cell_below ‹_› ‹_› | exact ⟨below_step (Aside0.out ‹_›) ‹_›⟩ | exact ⟨below_drew (Below.refl _ _)⟩))
    (first
      | (go_at_call 70; go_split_ands; (with_reducible refine (HC.out g1 c1 g2 c2 _ (Kd.C_below k1' (Aside0.out ‹_›)) (Kd.C_below k2' (Aside0.out ‹_›)) l1 l2).mono ?_); rintro e w' ⟨rfl, hb⟩))
  go_split_ands
  rename_i wz _ _ _ _ _ _ hz
  have hz' := below_step hA (Aside0.out hz)
  go_wp2_with (go_at_call 46; (with_reducible refine (itoa_calls ro (by omega) (by omega) _ (he.below hz')).mono ?_); rintro e w3 ⟨rfl, hsz, hb3⟩)
  go_ret2
  obtain ⟨rfl, rfl⟩ := Prod.mk.injEq _ _ _ _ |>.mp hfin.out
  exact ⟨rfl, below_step hz' hb3⟩
end Go.Proofs.YtibakeahgcakmaaGreatDoor
