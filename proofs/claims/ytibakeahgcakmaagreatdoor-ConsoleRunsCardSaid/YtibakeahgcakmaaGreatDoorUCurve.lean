/- The curve on plain numbers: a cell's index, an index's cell, there and back. No program. -/

namespace Go.Proofs.YtibakeahgcakmaaGreatDoor
namespace Curve

/-- A quarter's turn of the finer part. -/
def trn (s rx ry x y : Nat) : Nat × Nat := if ry = 1 then (x, y) else if rx = 1 then (s - 1 - y, s - 1 - x) else (y, x)
def dig (rx ry : Nat) : Nat := if ry = 1 then (if rx = 1 then 2 else 1) else (if rx = 1 then 3 else 0)
/-- The index of a cell at level n. -/
def hil : Nat → Nat → Nat → Nat
  | 0, _, _ => 0
  | n + 1, x, y => dig (x / 2 ^ n) (y / 2 ^ n) * 4 ^ n + hil n (trn (2 ^ n) (x / 2 ^ n) (y / 2 ^ n) (x % 2 ^ n) (y % 2 ^ n)).1 (trn (2 ^ n) (x / 2 ^ n) (y / 2 ^ n) (x % 2 ^ n) (y % 2 ^ n)).2
def rxOf (g : Nat) : Nat := g / 2
def ryOf (g : Nat) : Nat := if g = 1 ∨ g = 2 then 1 else 0
/-- The cell of an index at level n. -/
def deh : Nat → Nat → Nat × Nat
  | 0, _ => (0, 0)
  | n + 1, d =>
    ((trn (2 ^ n) (rxOf (d / 4 ^ n)) (ryOf (d / 4 ^ n)) (deh n (d % 4 ^ n)).1 (deh n (d % 4 ^ n)).2).1 + rxOf (d / 4 ^ n) * 2 ^ n,
     (trn (2 ^ n) (rxOf (d / 4 ^ n)) (ryOf (d / 4 ^ n)) (deh n (d % 4 ^ n)).1 (deh n (d % 4 ^ n)).2).2 + ryOf (d / 4 ^ n) * 2 ^ n)

theorem dig_lt (rx ry : Nat) : dig rx ry < 4 := by unfold dig; repeat' split
                                                   all_goals omega
theorem trn_lt {s rx ry x y : Nat} (hx : x < s) (hy : y < s) : (trn s rx ry x y).1 < s ∧ (trn s rx ry x y).2 < s := by
  unfold trn
  repeat' split
  all_goals (simp only; omega)
theorem trn_trn {s rx ry x y : Nat} (hx : x < s) (hy : y < s) : trn s rx ry (trn s rx ry x y).1 (trn s rx ry x y).2 = (x, y) := by
  unfold trn
  by_cases h : ry = 1
  · simp [h]
  · by_cases h2 : rx = 1
    · simp only [h, h2, if_true, if_false]
      rw [show s - 1 - (s - 1 - x) = x by omega, show s - 1 - (s - 1 - y) = y by omega]
    · simp [h, h2]
theorem pow_pos2 (n : Nat) : 0 < 2 ^ n := Nat.pow_pos (by omega)
theorem pow_pos4 (n : Nat) : 0 < 4 ^ n := Nat.pow_pos (by omega)
theorem hil_lt : ∀ (n x y : Nat), x < 2 ^ n → y < 2 ^ n → hil n x y < 4 ^ n
  | 0, _, _, _, _ => by simp [hil]
  | n + 1, x, y, hx, hy => by
    have p2 := pow_pos2 n
    have t := trn_lt (s := 2 ^ n) (rx := x / 2 ^ n) (ry := y / 2 ^ n) (Nat.mod_lt x p2) (Nat.mod_lt y p2)
    have ih := hil_lt n _ _ t.1 t.2
    have dl := dig_lt (x / 2 ^ n) (y / 2 ^ n)
    unfold hil
    rw [Nat.pow_succ]
    have : dig (x / 2 ^ n) (y / 2 ^ n) * 4 ^ n ≤ 3 * 4 ^ n := Nat.mul_le_mul_right _ (by omega)
    omega
theorem rx_dig {rx ry : Nat} (hx : rx < 2) (hy : ry < 2) : rxOf (dig rx ry) = rx ∧ ryOf (dig rx ry) = ry := by
  have h1 : rx = 0 ∨ rx = 1 := by omega
  have h2 : ry = 0 ∨ ry = 1 := by omega
  rcases h1 with rfl | rfl <;> rcases h2 with rfl | rfl <;> decide
theorem dig_rx {g : Nat} (h : g < 4) : dig (rxOf g) (ryOf g) = g ∧ rxOf g < 2 ∧ ryOf g < 2 := by
  have : g = 0 ∨ g = 1 ∨ g = 2 ∨ g = 3 := by omega
  rcases this with rfl | rfl | rfl | rfl <;> decide
theorem div_lt2 {x n : Nat} (hx : x < 2 ^ (n + 1)) : x / 2 ^ n < 2 := by
  rw [Nat.pow_succ] at hx
  exact Nat.div_lt_of_lt_mul hx
theorem deh_hil : ∀ (n x y : Nat), x < 2 ^ n → y < 2 ^ n → deh n (hil n x y) = (x, y)
  | 0, x, y, hx, hy => by simp [deh]; omega
  | n + 1, x, y, hx, hy => by
    have p2 := pow_pos2 n
    have t := trn_lt (s := 2 ^ n) (rx := x / 2 ^ n) (ry := y / 2 ^ n) (Nat.mod_lt x p2) (Nat.mod_lt y p2)
    have ih := deh_hil n _ _ t.1 t.2
    have hl := hil_lt n _ _ t.1 t.2
    have bx := div_lt2 hx
    have by' := div_lt2 hy
    have hr := rx_dig bx by'
    have hdiv : hil (n + 1) x y / 4 ^ n = dig (x / 2 ^ n) (y / 2 ^ n) := by
      unfold hil
      rw [Nat.add_comm, Nat.add_mul_div_right _ _ (pow_pos4 n), Nat.div_eq_of_lt hl, Nat.zero_add]
    have hmod : hil (n + 1) x y % 4 ^ n = hil n (trn (2 ^ n) (x / 2 ^ n) (y / 2 ^ n) (x % 2 ^ n) (y % 2 ^ n)).1 (trn (2 ^ n) (x / 2 ^ n) (y / 2 ^ n) (x % 2 ^ n) (y % 2 ^ n)).2 := by
      rw [hil, Nat.add_comm, Nat.add_mul_mod_self_right, Nat.mod_eq_of_lt hl]
    unfold deh
    rw [hdiv, hmod, ih, hr.1, hr.2]
    simp only
    rw [trn_trn (Nat.mod_lt x p2) (Nat.mod_lt y p2)]
    simp only
    rw [Nat.mul_comm (x / 2 ^ n), Nat.mul_comm (y / 2 ^ n), Nat.mod_add_div, Nat.mod_add_div]
theorem deh_lt : ∀ (n d : Nat), d < 4 ^ n → (deh n d).1 < 2 ^ n ∧ (deh n d).2 < 2 ^ n
  | 0, d, _ => by simp [deh]
  | n + 1, d, hd => by
    have ih := deh_lt n (d % 4 ^ n) (Nat.mod_lt _ (pow_pos4 n))
    have hg : d / 4 ^ n < 4 := by rw [Nat.pow_succ] at hd; exact Nat.div_lt_of_lt_mul hd
    have t := trn_lt (s := 2 ^ n) (rx := rxOf (d / 4 ^ n)) (ry := ryOf (d / 4 ^ n)) ih.1 ih.2
    obtain ⟨_, gx, gy⟩ := dig_rx hg
    unfold deh
    rw [Nat.pow_succ]
    have hx : rxOf (d / 4 ^ n) * 2 ^ n ≤ 1 * 2 ^ n := Nat.mul_le_mul_right _ (by omega)
    have hy : ryOf (d / 4 ^ n) * 2 ^ n ≤ 1 * 2 ^ n := Nat.mul_le_mul_right _ (by omega)
    simp only
    omega
theorem hil_deh : ∀ (n d : Nat), d < 4 ^ n → hil n (deh n d).1 (deh n d).2 = d
  | 0, d, hd => by simp [hil]; omega
  | n + 1, d, hd => by
    have hm := Nat.mod_lt d (pow_pos4 n)
    have ih := hil_deh n (d % 4 ^ n) hm
    have hlt := deh_lt n (d % 4 ^ n) hm
    have hg : d / 4 ^ n < 4 := by rw [Nat.pow_succ] at hd; exact Nat.div_lt_of_lt_mul hd
    have t := trn_lt (s := 2 ^ n) (rx := rxOf (d / 4 ^ n)) (ry := ryOf (d / 4 ^ n)) hlt.1 hlt.2
    obtain ⟨hdg, gx, gy⟩ := dig_rx hg
    have tt := trn_trn (s := 2 ^ n) (rx := rxOf (d / 4 ^ n)) (ry := ryOf (d / 4 ^ n)) hlt.1 hlt.2
    have p2 := pow_pos2 n
    unfold deh hil
    simp only
    generalize trn (2 ^ n) (rxOf (d / 4 ^ n)) (ryOf (d / 4 ^ n)) (deh n (d % 4 ^ n)).1 (deh n (d % 4 ^ n)).2 = T at t tt ⊢
    rw [Nat.add_mul_div_right _ _ p2, Nat.div_eq_of_lt t.1, Nat.zero_add, Nat.add_mul_div_right _ _ p2, Nat.div_eq_of_lt t.2, Nat.zero_add,
      Nat.add_mul_mod_self_right, Nat.mod_eq_of_lt t.1, Nat.add_mul_mod_self_right, Nat.mod_eq_of_lt t.2, tt, hdg]
    simp only
    rw [ih, Nat.mul_comm]
    exact Nat.div_add_mod d (4 ^ n)
end Curve
end Go.Proofs.YtibakeahgcakmaaGreatDoor
