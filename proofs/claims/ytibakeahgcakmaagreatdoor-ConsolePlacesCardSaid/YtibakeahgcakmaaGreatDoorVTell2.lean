/- What the console's commands tell, second part: place, owner. -/
import Derived.Test.YtibakeahgcakmaaGreatDoorVTell
import Derived.Deep.RegionHeld3
import Derived.Deep.MidRow
set_option linter.unusedVariables false
namespace Go.Proofs.YtibakeahgcakmaaGreatDoor
open Go.Shelf Go.RowKit Go.Proofs.YtibakeahgcakmaaGreatDoorW.PrintWords Go.Proofs.YtibakeahgcakmaaGreatDoorW.PrintLast Go.Proofs.YtibakeahgcakmaaGreatDoorW.PrintMore PF
def blankB : ByteArray := ⟨#[32]⟩
set_option maxHeartbeats 1000000 in
set_option maxRecDepth 100000 in
theorem place_calls (k : Nat) (A : Option Addr) (c : Nat) (l : List Int) (d x y e2 : Int) (w : World) (he : Env w) (hr : Kd.C (Kd.int .i64) w A l.length l) (hc : l.length ≤ c)
    (hl : 0 < l.length) (hd : rd l 0 = d) (hh : hilbert_Decode.f k d = some (x, y, e2)) (hx0 : -9223372036854775808 ≤ x) (hx1 : x ≤ 9223372036854775807) (hy0 : -9223372036854775808 ≤ y) (hy1 : y ≤ 9223372036854775807) :
    Calls Tryz.prog 50 #[.slice A l.length c] w fun e w' => e = .returned (.tuple #[.string (itoaB x ++ blankB ++ itoaB y), .int .i64 e2]) ∧ Below w.heap.size w w' := by
  obtain ⟨ad, rfl, hcell⟩ := Kd.at_int hr 0 (by omega) (by omega)
  rw [hd] at hcell
  have hcell0 : w.cell? ad = some (.int .i64 d) := by rw [show ad.add (Int.toNat 0) = ad from by cases ad; simp [Addr.add]] at hcell; exact hcell
  clear hcell
  go_enter Tryz.func50, Tryz.ntmps50
  go_wp2_with (first
    | (go_at_call 67; (with_reducible refine (hilbert_Decode.calls k d x y e2 _ hh).mono ?_); rintro e w1 ⟨rfl, hb1⟩))
  have hA : Below w.heap.size w (w1.alloc (.cells #[.int .i64 x, .int .i64 y] 38)) := below_alloc hb1 _
  have hs1 := hb1.size
  generalize hW : w1.alloc (.cells #[.int .i64 x, .int .i64 y] 38) = wA at hA ⊢
  have c0 : wA.cell? ⟨w1.heap.size, 0, none⟩ = some (.int .i64 x) := by rw [← hW]; simp
  have c1 : wA.cell? ⟨w1.heap.size, 1, none⟩ = some (.int .i64 y) := by rw [← hW]; simp
  have HW := Lib.hid hW
  have sx := itoaB_size x hx0 hx1
  have sy := itoaB_size y hy0 hy1
  have q1 : ¬ 9223372036854775807 < (itoaB x).size + 1 := by omega
  have q2 : ¬ 9223372036854775807 < (itoaB x).size + 1 + (itoaB y).size := by omega
  clear hW
  go_region_held3 (fun w' => w'.cell? ⟨w1.heap.size, 0, none⟩ = some (.int .i64 x) ∧ w'.cell? ⟨w1.heap.size, 1, none⟩ = some (.int .i64 y) ∧ Aside0 (Below w.heap.size w w'))
    (first | (go_split_ands; refine ⟨?_, ?_, ?_⟩ <;> first | assumption | exact pw_cell_below ‹_› ‹_› | exact ⟨below_step (Aside0.out ‹_›) ‹_›⟩ | exact ⟨below_drew hA⟩))
    (first
      | (go_at_call_of 46 (Value.int .i64 x); (with_reducible refine (itoa_calls x hx0 hx1 _ ?_).mono ?_); (go_split_ands; exact he.below (Aside0.out ‹_›)); rintro e w' ⟨rfl, hsz, hb⟩)
      | (go_at_call_of 46 (Value.int .i64 y); (with_reducible refine (itoa_calls y hy0 hy1 _ ?_).mono ?_); (go_split_ands; exact he.below (Aside0.out ‹_›)); rintro e w' ⟨rfl, hsz, hb⟩))
  all_goals go_wp2
  all_goals go_ret2
  all_goals (go_split_ands; exact ⟨rfl, Aside0.out ‹_›⟩)
end Go.Proofs.YtibakeahgcakmaaGreatDoor
