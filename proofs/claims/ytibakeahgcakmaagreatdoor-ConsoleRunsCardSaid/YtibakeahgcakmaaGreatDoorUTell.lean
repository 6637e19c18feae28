/- What the console's commands tell: walks of failed, turn, curve, place over the contracts of what they call. -/
import Derived.Test.YtibakeahgcakmaaGreatDoorUBase
import Derived.Test.YtibakeahgcakmaaGreatDoorUPFx6
import Derived.Test.YtibakeahgcakmaaGreatDoorUPFx7
set_option linter.unusedVariables false
namespace Go.Proofs.YtibakeahgcakmaaGreatDoor
open Go.Shelf Go.RowKit Go.Proofs.YtibakeahgcakmaaGreatDoorW.PrintWords Go.Proofs.YtibakeahgcakmaaGreatDoorW.PrintLast Go.Proofs.YtibakeahgcakmaaGreatDoorW.PrintMore PF

structure Env (w : World) : Prop where
  tab : Lib.TabIs Tryz.prog w "internal/strconv.uint64pow10" .u64 Lib.pow10Tab
  ml : ∃ m, w.cell? ⟨0, 0, none⟩ = some (.int .i64 m)
  big : 6 ≤ w.heap.size

theorem glob_pow : Tryz.prog.globalNamed "internal/strconv.uint64pow10" = some 3 := by kernel_rfl
theorem Env.below {w w' : World} (h : Env w) (hb : Below w.heap.size w w') : Env w' := by
  obtain ⟨m, hm⟩ := h.ml
  have hbig := h.big
  exact ⟨var?_below hb glob_pow (by omega) h.tab, ⟨m, (hb.cell (p := ⟨0, 0, none⟩) (by show 0 < _; omega)).trans hm⟩, by have := hb.size; omega⟩

theorem below_grow' (w : World) (k : Nat) (os : Array Obj) : Below w.heap.size w (Go.Sort.grow (w.drewN k) os) :=
  ⟨rfl, rfl, rfl, by simp [Go.Sort.grow], fun i hi => by show (w.heap ++ os)[i]? = w.heap[i]?; rw [Array.getElem?_append_left hi]⟩
def itoaB (n : Int) : ByteArray := ⟨(Lib.itoa n).toArray⟩
theorem decDigits_le : ∀ (f u : Nat), u < 10 ^ (f + 1) → (Lib.decDigits u).length ≤ f + 1
  | 0, u, h => by rw [Lib.decDigits, dif_pos (by omega)]; simp
  | f + 1, u, h => by
    rw [Lib.decDigits]
    split
    · simp
    · have h2 : u / 10 < 10 ^ (f + 1) := by rw [Nat.pow_succ] at h; omega
      have := decDigits_le f (u / 10) h2
      rw [List.length_append, List.length_singleton]; omega
theorem itoaB_size (n : Int) (h0 : -9223372036854775808 ≤ n) (h1 : n ≤ 9223372036854775807) : (itoaB n).size ≤ 100 := by
  show (Lib.itoa n).toArray.size ≤ 100
  rw [List.size_toArray]
  unfold Lib.itoa
  split
  · have := decDigits_le 19 n.natAbs (by omega)
    rw [List.length_cons]; omega
  · have := decDigits_le 19 n.toNat (by omega)
    omega
theorem itoa_calls (n : Int) (h0 : -9223372036854775808 ≤ n) (h1 : n ≤ 9223372036854775807) (w : World) (he : Env w) :
    Calls Tryz.prog 46 #[.int .i64 n] w fun e w' => e = .returned (.string (itoaB n)) ∧ (itoaB n).size ≤ 100 ∧ Below w.heap.size w w' := by
  refine (Tryz.strconv_Itoa n h0 h1 w he.tab).mono ?_
  rintro e w' ⟨rfl, k, os, rfl⟩
  exact ⟨rfl, itoaB_size n h0 h1, below_grow' w k os⟩

def errorB : ByteArray := ⟨#[101, 114, 114, 111, 114, 32]⟩
def failedB (n : Int) : ByteArray := errorB ++ itoaB n
set_option maxHeartbeats 400000 in
theorem failed_calls (n : Int) (h0 : -9223372036854775808 ≤ n) (h1 : n ≤ 9223372036854775807) (w : World) (he : Env w) :
    Calls Tryz.prog 31 #[.int .i64 n] w fun e w' => e = .returned (.string (failedB n)) ∧ Below w.heap.size w w' := by
  go_enter Tryz.func31, Tryz.ntmps31
  go_wp2_with (go_at_call 46; (with_reducible refine (itoa_calls n h0 h1 _ he).mono ?_); rintro e w1 ⟨rfl, hsz, hb⟩)
  go_ret
  exact ⟨rfl, hb⟩

set_option maxHeartbeats 1000000 in
theorem curve_calls (k : Nat) (A : Option Addr) (c : Nat) (l : List Int) (x y d e2 : Int) (w : World) (he : Env w) (hr : Kd.C (Kd.int .i64) w A l.length l) (hc : l.length ≤ c)
    (hp : console_point.f l 0 = some (x, y)) (hh : hilbert_Encode.f k x y = some (d, e2)) (h0 : -9223372036854775808 ≤ d) (h1 : d ≤ 9223372036854775807) :
    Calls Tryz.prog 49 #[.slice A l.length c] w fun e w' => e = .returned (.tuple #[.string (itoaB d), .int .i64 e2]) ∧ Below w.heap.size w w' := by
  go_enter Tryz.func49, Tryz.ntmps49
  go_wp2_with (first
    | (go_at_call 64; (with_reducible refine (console_point.calls A c l 0 x y _ hr hc hp).mono ?_); rintro e w1 ⟨rfl, hb1⟩)
    | (go_at_call 66; (with_reducible refine (hilbert_Encode.calls k x y d e2 _ hh).mono ?_); rintro e w2 ⟨rfl, hb2⟩)
    | (go_at_call 46; (with_reducible refine (itoa_calls d h0 h1 _ ((he.below hb1).below hb2)).mono ?_); rintro e w3 ⟨rfl, hsz, hb3⟩))
  go_ret2
  exact ⟨rfl, below_step (below_step hb1 hb2) hb3⟩

def rightB : ByteArray := ⟨#[114, 105, 103, 104, 116]⟩
def noneB : ByteArray := ⟨#[110, 111, 110, 101]⟩
def leftB : ByteArray := ⟨#[108, 101, 102, 116]⟩
def turnB (t : Int) : ByteArray := if t < 0 then rightB else if t = 0 then noneB else leftB

set_option maxHeartbeats 1000000 in
set_option maxRecDepth 100000 in
theorem turn_calls (k : Nat) (A : Option Addr) (c : Nat) (l : List Int) (x0 y0 x1 y1 x2 y2 t e2 : Int) (w : World) (hr : Kd.C (Kd.int .i64) w A l.length l) (hc : l.length ≤ c)
    (hp0 : console_point.f l 0 = some (x0, y0)) (hp1 : console_point.f l 1 = some (x1, y1)) (hp2 : console_point.f l 2 = some (x2, y2))
    (hh : geom_Turn.f k x0 y0 x1 y1 x2 y2 = some (t, e2)) (ht : t = -1 ∨ t = 0 ∨ t = 1) :
    Calls Tryz.prog 47 #[.slice A l.length c] w fun e w' => e = .returned (.tuple #[.string (turnB t), .int .i64 e2]) ∧ Below w.heap.size w w' := by
  have i0 : ∀ w, (Instr.index 110 (.agg #[.string { data := #[114, 105, 103, 104, 116] }, .string { data := #[110, 111, 110, 101] }, .string { data := #[108, 101, 102, 116] }]) (.int .i64 0)).run Tryz.prog w = .ok (.string { data := #[114, 105, 103, 104, 116] }) w := fun _ => by kernel_rfl
  have i1 : ∀ w, (Instr.index 110 (.agg #[.string { data := #[114, 105, 103, 104, 116] }, .string { data := #[110, 111, 110, 101] }, .string { data := #[108, 101, 102, 116] }]) (.int .i64 1)).run Tryz.prog w = .ok (.string { data := #[110, 111, 110, 101] }) w := fun _ => by kernel_rfl
  have i2 : ∀ w, (Instr.index 110 (.agg #[.string { data := #[114, 105, 103, 104, 116] }, .string { data := #[110, 111, 110, 101] }, .string { data := #[108, 101, 102, 116] }]) (.int .i64 2)).run Tryz.prog w = .ok (.string { data := #[108, 101, 102, 116] }) w := fun _ => by kernel_rfl
  rcases ht with rfl | rfl | rfl
  all_goals
    go_enter Tryz.func47, Tryz.ntmps47
    go_wp2_with (first
      | (go_at_call 64; (with_reducible refine (console_point.calls A c l 0 x0 y0 _ hr hc hp0).mono ?_); rintro e w1 ⟨rfl, hb1⟩)
      | (go_at_call 64; (with_reducible refine (console_point.calls A c l 1 x1 y1 _ (Kd.C_below hr hb1) hc hp1).mono ?_); rintro e w2 ⟨rfl, hb2⟩)
      | (go_at_call 64; (with_reducible refine (console_point.calls A c l 2 x2 y2 _ (Kd.C_below (Kd.C_below hr hb1) hb2) hc hp2).mono ?_); rintro e w3 ⟨rfl, hb3⟩)
      | (go_at_call 63; (with_reducible refine (geom_Turn.calls k x0 y0 x1 y1 x2 y2 _ e2 _ hh).mono ?_); rintro e w4 ⟨rfl, hb4⟩))
    go_ret2
    exact ⟨rfl, below_step (below_step (below_step hb1 hb2) hb3) hb4⟩
end Go.Proofs.YtibakeahgcakmaaGreatDoor
