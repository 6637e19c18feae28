/- The printed functions of the curve tell the plain curve. -/
import Derived.Test.YtibakeahgcakmaaGreatDoorUCurve
import Derived.Test.YtibakeahgcakmaaGreatDoorUPFx7
import Derived.Test.YtibakeahgcakmaaGreatDoorUPFx9
set_option linter.unusedVariables false
namespace Go.Proofs.YtibakeahgcakmaaGreatDoor
open Go.RowKit Go.Proofs.YtibakeahgcakmaaGreatDoorW.PrintWords Go.Proofs.YtibakeahgcakmaaGreatDoorW.PrintLast Go.Proofs.YtibakeahgcakmaaGreatDoorW.PrintMore PF Curve

theorem w64 (n : Int) (h0 : -9223372036854775808 ≤ n) (h1 : n ≤ 9223372036854775807) : wrap64 n = n := by unfold wrap64; omega
theorem w64n (a : Nat) (h : a ≤ 9223372036854775807) : wrap64 (a : Int) = (a : Int) := w64 _ (by omega) (by omega)
theorem wraps_i64 (n : Int) (h₀ : 0 ≤ n) (h₁ : n < 4611686018427387904) : IntKind.i64.wrap n = n := by rw [IntKind.wrap_i64]; omega
theorem pow_le (n : Nat) (h : n ≤ 16) : (2 : Nat) ^ n ≤ 65536 := Nat.pow_le_pow_right (by omega) h
theorem shl1 (n : Nat) (h : n ≤ 16) : shl .i64 1 (n : Int) = ((2 ^ n : Nat) : Int) := by
  have hp := pow_le n h
  unfold shl
  rw [Int.toNat_natCast, Nat.min_eq_left (by show n ≤ 64; omega), Int.one_mul, show ((2 : Int) ^ n) = ((2 ^ n : Nat) : Int) by push_cast; rfl]
  generalize 2 ^ n = m at hp ⊢
  exact wraps_i64 _ (by omega) (by omega)
theorem shr_nat (x n : Nat) (h : n ≤ 64) : shr .i64 (x : Int) (n : Int) = ((x / 2 ^ n : Nat) : Int) := by
  unfold shr
  rw [Int.toNat_natCast, Nat.min_eq_left (by show n ≤ 64; omega)]
  push_cast; rfl
theorem and_mask (x n : Nat) (hx : x < 4611686018427387904) (h : n ≤ 16) : Go.bits .and .i64 (x : Int) ((2 ^ n : Nat) - 1 : Int) = ((x % 2 ^ n : Nat) : Int) := by
  have := bits_mask .i64 62 (by decide) (fun n h0 h1 => wraps_i64 n h0 h1) n (by omega) (x : Int) (by omega) (by show (x : Int) < 4611686018427387904; omega)
  push_cast at this ⊢
  exact this
theorem and_one (x : Nat) (hx : x < 4611686018427387904) : Go.bits .and .i64 (x : Int) 1 = ((x % 2 : Nat) : Int) := by
  have := and_mask x 1 hx (by omega)
  simpa using this
theorem turned_eq (s rx ry x y : Nat) (hs : s ≤ 65536) (hx : x < s) (hy : y < s) :
    hilbert_turned.f (x : Int) (y : Int) (s : Int) (rx : Int) (ry : Int) = some ((((trn s rx ry x y).1 : Nat) : Int), (((trn s rx ry x y).2 : Nat) : Int)) := by
  unfold hilbert_turned.f trn
  by_cases h : ry = 1
  · subst h; simp
  · rw [if_neg (show ¬ (ry : Int) = 1 by omega), if_neg h]
    by_cases h2 : rx = 1
    · subst h2
      rw [if_pos (by simp), if_pos rfl, w64 ((s : Int) - 1) (by omega) (by omega), w64 ((s : Int) - 1 - y) (by omega) (by omega), w64 ((s : Int) - 1 - x) (by omega) (by omega)]
      simp only [Option.some.injEq, Prod.mk.injEq]
      omega
    · rw [if_neg (show ¬ (rx : Int) = 1 by omega), if_neg h2]
theorem xor_dig (rx ry : Nat) (hx : rx < 2) (hy : ry < 2) : Go.bits .xor .i64 (wrap64 (3 * (rx : Int))) (ry : Int) = (dig rx ry : Nat) := by
  have h1 : rx = 0 ∨ rx = 1 := by omega
  have h2 : ry = 0 ∨ ry = 1 := by omega
  rcases h1 with rfl | rfl <;> rcases h2 with rfl | rfl <;> decide +kernel
theorem four (n : Nat) : 2 ^ n * 2 ^ n = 4 ^ n := by rw [← Nat.mul_pow]
theorem pow4_le (n : Nat) (h : n ≤ 16) : (4 : Nat) ^ n ≤ 4294967296 := Nat.pow_le_pow_right (by omega) h

theorem cell_loop : ∀ (n k x y : Nat) (d : Int), n ≤ 16 → x < 2 ^ n → y < 2 ^ n → 0 ≤ d → d + (4 ^ n : Nat) ≤ 8589934592 → n < k →
    hilbert_Cell.l0 k (x : Int) (y : Int) d ((n : Int) - 1) = some (d + (hil n x y : Nat), 0) := by
  intro n
  induction n with
  | zero =>
    intro k x y d hn hx hy d0 d1 hk
    obtain ⟨k, rfl⟩ : ∃ m, k = m + 1 := ⟨k - 1, by omega⟩
    simp only [hilbert_Cell.l0]
    rw [if_neg (by omega)]
    simp [hil]
  | succ n ihn =>
    intro k x y d hn hx hy d0 d1 hk
    obtain ⟨k, rfl⟩ : ∃ m, k = m + 1 := ⟨k - 1, by omega⟩
    have hp := pow_le n (by omega)
    have p2 := pow_pos2 n
    have bx := div_lt2 hx
    have by' := div_lt2 hy
    have hx62 : x < 4611686018427387904 := by have := pow_le (n + 1) hn; omega
    have hy62 : y < 4611686018427387904 := by have := pow_le (n + 1) hn; omega
    have t := trn_lt (s := 2 ^ n) (rx := x / 2 ^ n) (ry := y / 2 ^ n) (Nat.mod_lt x p2) (Nat.mod_lt y p2)
    have ih := fun d' => ihn k _ _ d' (by omega) t.1 t.2
    clear ihn
    have hdl := dig_lt (x / 2 ^ n) (y / 2 ^ n)
    have h4 := pow4_le n (by omega)
    have e1 := shl1 n (by omega)
    have e2 := and_mask x n hx62 (by omega)
    have e3 := and_mask y n hy62 (by omega)
    have e4 := shr_nat x n (by omega)
    have e5 := shr_nat y n (by omega)
    have e6 := four n
    have e7 := turned_eq _ (x / 2 ^ n) (y / 2 ^ n) _ _ hp (Nat.mod_lt x p2) (Nat.mod_lt y p2)
    rw [Nat.pow_succ] at d1
    unfold hil
    generalize 2 ^ n = s at *
    generalize 4 ^ n = q at *
    have hs1 : wrap64 ((s : Int) - 1) = (s : Int) - 1 := w64 _ (by omega) (by omega)
    have hss : wrap64 ((s : Int) * (s : Int)) = (q : Int) := by
      rw [← Int.natCast_mul, e6]; exact w64 _ (by omega) (by omega)
    have hm : dig (x / s) (y / s) * q ≤ 3 * q := Nat.mul_le_mul_right _ (by omega)
    simp only [hilbert_Cell.l0]
    rw [show ((n + 1 : Nat) : Int) - 1 = (n : Int) by omega, if_pos (by omega), if_pos (by omega)]
    rw [e1, hs1, e2, e3, e4, e5,
      and_one _ (by omega), and_one _ (by omega), Nat.mod_eq_of_lt bx, Nat.mod_eq_of_lt by', e7, xor_dig _ _ bx by', hss]
    simp only [Option.bind_some]
    rw [← Int.natCast_mul, Nat.mul_comm q]
    clear e1 e2 e3 e4 e5 e6 e7 hss hs1 hx hy
    generalize dig (x / s) (y / s) * q = D at hm ⊢
    have i2 := ih (d + (D : Int)) (by omega) (by omega) (by omega)
    rw [w64 (D : Int) (by omega) (by omega), w64 (d + (D : Int)) (by omega) (by omega), w64 ((n : Int) - 1) (by omega) (by omega), i2]
    simp only [Option.some.injEq, Prod.mk.injEq, and_true]
    rw [Int.natCast_add]
    exact Int.add_assoc _ _ _

theorem shl_bound (n : Nat) (h : n ≤ 16) (x : Nat) : ((x : Int) ≥ shl .i64 1 (n : Int)) ↔ 2 ^ n ≤ x := by
  rw [shl1 n h]; generalize 2 ^ n = s; omega
theorem Cell_eq (n k x y : Nat) (h1 : 1 ≤ n) (h2 : n ≤ 16) (hx : x < 2 ^ n) (hy : y < 2 ^ n) (hk : n + 1 < k) : hilbert_Cell.f k (x : Int) (y : Int) (n : Int) = some (((hil n x y : Nat) : Int), 0) := by
  obtain ⟨k, rfl⟩ : ∃ m, k = m + 1 := ⟨k - 1, by omega⟩
  have b1 := shl_bound n h2 x
  have b2 := shl_bound n h2 y
  have h4 := pow4_le n h2
  unfold hilbert_Cell.f
  rw [if_neg (by omega), if_neg (by omega), if_neg (by omega), if_neg (by omega), if_pos (by omega), if_neg (by rw [b1]; omega), decide_eq_false (by rw [b2]; omega)]
  simp only [hilbert_Cell.j0]
  rw [if_neg (show ¬ (false = true) by decide), w64 ((n : Int) - 1) (by omega) (by omega), cell_loop n k x y 0 h2 hx hy (by omega) (by generalize 4 ^ n = q at *; omega) (by omega)]
  simp
theorem PointMay_eq (x y : Int) : geom_PointMay.f x y = some (decide (0 ≤ x ∧ x ≤ 4294967295 ∧ 0 ≤ y ∧ y ≤ 4294967295)) := by
  unfold geom_PointMay.f geom_coord.f
  by_cases h1 : x ≥ 0
  · rw [if_pos h1]
    by_cases h2 : x ≤ 4294967295
    · simp only [Option.bind_some, decide_eq_true h2, if_true]
      by_cases h3 : y ≥ 0
      · rw [if_pos h3]; simp [show 0 ≤ x from h1, show 0 ≤ y from h3, h2]
      · rw [if_neg h3]; simp; omega
    · simp [h2]
  · rw [if_neg h1]; simp; omega
/-- The index of a place. -/
def enc (x y : Int) : Int := (hil 16 (x.toNat / 65536) (y.toNat / 65536) : Nat)
theorem enc_range (x y : Int) (hx : x ≤ 4294967295) (hy : y ≤ 4294967295) : 0 ≤ enc x y ∧ enc x y < 4294967296 := by
  have := hil_lt 16 (x.toNat / 65536) (y.toNat / 65536) (by show _ < 65536; omega) (by show _ < 65536; omega)
  unfold enc
  have e : (4 : Nat) ^ 16 = 4294967296 := by decide
  omega
theorem Encode_eq (k : Nat) (x y : Int) (hk : 20 ≤ k) : hilbert_Encode.f k x y = some (if 0 ≤ x ∧ x ≤ 4294967295 ∧ 0 ≤ y ∧ y ≤ 4294967295 then (enc x y, 0) else (0, 500)) := by
  unfold hilbert_Encode.f
  rw [PointMay_eq]
  simp only [Option.bind_some]
  by_cases h : 0 ≤ x ∧ x ≤ 4294967295 ∧ 0 ≤ y ∧ y ≤ 4294967295
  · rw [decide_eq_true h, if_pos rfl, if_pos h]
    obtain ⟨a, rfl⟩ := Int.eq_ofNat_of_zero_le h.1
    obtain ⟨b, rfl⟩ := Int.eq_ofNat_of_zero_le h.2.2.1
    have := Cell_eq 16 k (a / 65536) (b / 65536) (by omega) (by omega) (by show _ < 65536; omega) (by show _ < 65536; omega) (by omega)
    have e : hilbert_Cell.f k ((a : Int) / 65536) ((b : Int) / 65536) 16 = some (((hil 16 (a / 65536) (b / 65536) : Nat) : Int), 0) := by
      rw [show (a : Int) / 65536 = ((a / 65536 : Nat) : Int) by omega, show (b : Int) / 65536 = ((b / 65536 : Nat) : Int) by omega]; exact this
    rw [e]
    simp only [Option.bind_some, Option.some.injEq, Prod.mk.injEq, and_true]
    unfold enc
    rw [Int.toNat_natCast, Int.toNat_natCast]
  · rw [decide_eq_false h, if_neg (show ¬ (false = true) by decide), if_neg h]

/-! ### back -/
theorem shl_at (x n : Nat) (hx : x < 4) (h : n ≤ 16) : shl .i64 (x : Int) (n : Int) = ((x * 2 ^ n : Nat) : Int) := by
  have hp := pow_le n h
  have hm : x * 2 ^ n ≤ 4 * 65536 := Nat.mul_le_mul (by omega) hp
  unfold shl
  rw [Int.toNat_natCast, Nat.min_eq_left (by show n ≤ 64; omega), show (x : Int) * (2 : Int) ^ n = ((x * 2 ^ n : Nat) : Int) by push_cast; rfl]
  generalize x * 2 ^ n = m at hm ⊢
  exact wraps_i64 _ (by omega) (by show (m : Int) < 4611686018427387904; omega)
theorem or_add (x m n : Nat) (hx : x < 2 ^ n) (hm : m < 4) (hn : n ≤ 16) : Go.bits .or .i64 (x : Int) ((m * 2 ^ n : Nat) : Int) = ((x + m * 2 ^ n : Nat) : Int) := by
  have hp := pow_le n hn
  have hb : m * 2 ^ n ≤ 4 * 65536 := Nat.mul_le_mul (by omega) hp
  rw [(bits_nat .i64 62 (by decide) (fun n h0 h1 => wraps_i64 n h0 h1) x (m * 2 ^ n) (by show x < 4611686018427387904; omega) (by show _ < 4611686018427387904; omega)).2,
    Nat.or_comm, Nat.mul_comm, ← Nat.two_pow_add_eq_or_of_lt hx m, Nat.add_comm]
theorem ry_bits (g : Nat) (h : g < 4) : Go.bits .and .i64 (Go.bits .xor .i64 (g : Int) ((g : Int) / 2)) 1 = (ryOf g : Nat) ∧ (g : Int) / 2 = (rxOf g : Nat) := by
  have : g = 0 ∨ g = 1 ∨ g = 2 ∨ g = 3 := by omega
  rcases this with rfl | rfl | rfl | rfl <;> decide +kernel
theorem and_three (x : Nat) (hx : x < 4611686018427387904) : Go.bits .and .i64 (x : Int) 3 = ((x % 4 : Nat) : Int) := by
  have := and_mask x 2 hx (by omega)
  simpa using this
theorem deh_step (n d : Nat) : deh (n + 1) (d % 4 ^ (n + 1)) =
    ((trn (2 ^ n) (rxOf (d / 4 ^ n % 4)) (ryOf (d / 4 ^ n % 4)) (deh n (d % 4 ^ n)).1 (deh n (d % 4 ^ n)).2).1 + rxOf (d / 4 ^ n % 4) * 2 ^ n,
     (trn (2 ^ n) (rxOf (d / 4 ^ n % 4)) (ryOf (d / 4 ^ n % 4)) (deh n (d % 4 ^ n)).1 (deh n (d % 4 ^ n)).2).2 + ryOf (d / 4 ^ n % 4) * 2 ^ n) := by
  rw [deh, Nat.pow_succ, Nat.mod_mul_right_div_self, Nat.mod_mul_right_mod]
theorem dec_loop (d : Nat) (hd : d < 4294967296) : ∀ (j i k : Nat), i + j = 16 → j < k →
    hilbert_Decode.l0 k (d : Int) ((deh i (d % 4 ^ i)).1 : Nat) ((deh i (d % 4 ^ i)).2 : Nat) (i : Int) = some ((((deh 16 d).1 * 65536 : Nat) : Int), (((deh 16 d).2 * 65536 : Nat) : Int), 0) := by
  intro j
  induction j with
  | zero =>
    intro i k hi hk
    obtain rfl : i = 16 := by omega
    obtain ⟨k, rfl⟩ : ∃ m, k = m + 1 := ⟨k - 1, by omega⟩
    have e : d % 4 ^ 16 = d := Nat.mod_eq_of_lt hd
    have hl := deh_lt 16 d hd
    rw [e]
    simp only [hilbert_Decode.l0]
    rw [if_neg (by omega)]
    generalize deh 16 d = T at hl ⊢
    have h1 : T.1 < 65536 := hl.1
    have h2 : T.2 < 65536 := hl.2
    rw [w64 _ (by omega) (by omega), w64 _ (by omega) (by omega)]
    simp
  | succ j ih =>
    intro i k hi hk
    obtain ⟨k, rfl⟩ : ∃ m, k = m + 1 := ⟨k - 1, by omega⟩
    have i2 := ih (i + 1) k (by omega) (by omega)
    clear ih
    rw [deh_step] at i2
    have hl := deh_lt i (d % 4 ^ i) (Nat.mod_lt _ (pow_pos4 i))
    have hp := pow_le i (by omega)
    have hg : d / 4 ^ i % 4 < 4 := Nat.mod_lt _ (by omega)
    have hdq : d / 4 ^ i < 4611686018427387904 := Nat.lt_of_le_of_lt (Nat.div_le_self _ _) (by omega)
    have e1 : shr .i64 (d : Int) ((2 * i : Nat) : Int) = ((d / 4 ^ i : Nat) : Int) := by
      rw [shr_nat d (2 * i) (by omega), Nat.pow_mul]
    have e2 := and_three _ hdq
    obtain ⟨e3, e4⟩ := ry_bits _ hg
    obtain ⟨hdg, gx, gy⟩ := dig_rx hg
    have t := trn_lt (s := 2 ^ i) (rx := rxOf (d / 4 ^ i % 4)) (ry := ryOf (d / 4 ^ i % 4)) hl.1 hl.2
    have e5 := shl1 i (by omega)
    have e6 := turned_eq _ (rxOf (d / 4 ^ i % 4)) (ryOf (d / 4 ^ i % 4)) _ _ hp hl.1 hl.2
    have e7 := shl_at (rxOf (d / 4 ^ i % 4)) i (by omega) (by omega)
    have e8 := shl_at (ryOf (d / 4 ^ i % 4)) i (by omega) (by omega)
    have e9 := or_add _ (rxOf (d / 4 ^ i % 4)) i t.1 (by omega) (by omega)
    have e10 := or_add _ (ryOf (d / 4 ^ i % 4)) i t.2 (by omega) (by omega)
    simp only [hilbert_Decode.l0]
    rw [if_pos (by omega), w64 (2 * (i : Int)) (by omega) (by omega), if_pos (by omega), if_pos (by omega), show 2 * (i : Int) = ((2 * i : Nat) : Int) by omega, e1, e2, e3, e4, e5, e6]
    simp only [Option.bind_some]
    rw [e7, e8, e9, e10, w64 ((i : Int) + 1) (by omega) (by omega)]
    exact i2
theorem Decode_eq (k : Nat) (d : Int) (hk : 20 ≤ k) (h0 : 0 ≤ d) (h1 : d < 4294967296) : hilbert_Decode.f k d = some ((((deh 16 d.toNat).1 * 65536 : Nat) : Int), (((deh 16 d.toNat).2 * 65536 : Nat) : Int), 0) := by
  obtain ⟨n, rfl⟩ := Int.eq_ofNat_of_zero_le h0
  obtain ⟨k, rfl⟩ : ∃ m, k = m + 1 := ⟨k - 1, by omega⟩
  have := dec_loop n (by omega) 16 0 k (by omega) (by omega)
  unfold hilbert_Decode.f
  rw [if_neg (by omega), decide_eq_false (by omega)]
  simp only [hilbert_Decode.j0]
  rw [if_neg (show ¬ (false = true) by decide), Int.toNat_natCast]
  exact this
theorem Decode_bad (k : Nat) (d : Int) (hk : 20 ≤ k) (h : d < 0 ∨ 4294967296 ≤ d) : hilbert_Decode.f k d = some (0, 0, 500) := by
  obtain ⟨k, rfl⟩ : ∃ m, k = m + 1 := ⟨k - 1, by omega⟩
  unfold hilbert_Decode.f
  by_cases h0 : d < 0
  · rw [if_pos h0]; simp only [hilbert_Decode.j0]; rw [if_pos trivial]
  · rw [if_neg h0, decide_eq_true (show d ≥ 4294967296 by omega)]; simp only [hilbert_Decode.j0]; rw [if_pos trivial]

/-! ### the reference's cell -/
theorem tdiv_nat (a b : Nat) : Int.tdiv (a : Int) (b : Int) = ((a / b : Nat) : Int) := by
  rw [Int.tdiv_eq_ediv_of_nonneg (by omega)]; push_cast; rfl
theorem refcell_loop : ∀ (n k x y : Nat) (d : Int), n ≤ 16 → x < 2 ^ n → y < 2 ^ n → 0 ≤ d → d + (4 ^ n : Nat) ≤ 8589934592 → n < k →
    furlongref1_Cell.l0 k (x : Int) (y : Int) d ((2 ^ n / 2 : Nat) : Int) = some (d + (hil n x y : Nat), 0) := by
  intro n
  induction n with
  | zero =>
    intro k x y d hn hx hy d0 d1 hk
    obtain ⟨k, rfl⟩ : ∃ m, k = m + 1 := ⟨k - 1, by omega⟩
    simp only [furlongref1_Cell.l0]
    rw [if_neg (by simp)]
    simp [hil]
  | succ n ihn =>
    intro k x y d hn hx hy d0 d1 hk
    obtain ⟨k, rfl⟩ : ∃ m, k = m + 1 := ⟨k - 1, by omega⟩
    have hp := pow_le n (by omega)
    have p2 := pow_pos2 n
    have bx := div_lt2 hx
    have by' := div_lt2 hy
    have hx62 : x < 4611686018427387904 := by have := pow_le (n + 1) hn; omega
    have hy62 : y < 4611686018427387904 := by have := pow_le (n + 1) hn; omega
    have t := trn_lt (s := 2 ^ n) (rx := x / 2 ^ n) (ry := y / 2 ^ n) (Nat.mod_lt x p2) (Nat.mod_lt y p2)
    have ih := fun d' => ihn k _ _ d' (by omega) t.1 t.2
    clear ihn
    have hdl := dig_lt (x / 2 ^ n) (y / 2 ^ n)
    have h4 := pow4_le n (by omega)
    have e2 := and_mask x n hx62 (by omega)
    have e3 := and_mask y n hy62 (by omega)
    have e6 := four n
    have hs0 : (2 : Nat) ^ (n + 1) / 2 = 2 ^ n := by rw [Nat.pow_succ]; omega
    have hml := Nat.mod_lt x p2
    have hml' := Nat.mod_lt y p2
    rw [Nat.pow_succ] at d1
    rw [hs0]
    unfold hil
    generalize 2 ^ n = s at *
    generalize 4 ^ n = q at *
    have hs1 : wrap64 ((s : Int) - 1) = (s : Int) - 1 := w64 _ (by omega) (by omega)
    have hss : wrap64 ((s : Int) * (s : Int)) = (q : Int) := by
      rw [← Int.natCast_mul, e6]; exact w64 _ (by omega) (by omega)
    have e4 : wrap64 (Int.tdiv (x : Int) (s : Int)) = ((x / s : Nat) : Int) := by rw [tdiv_nat]; exact w64n _ (by generalize x / s = z at bx; omega)
    have e5 : wrap64 (Int.tdiv (y : Int) (s : Int)) = ((y / s : Nat) : Int) := by rw [tdiv_nat]; exact w64n _ (by generalize y / s = z at by'; omega)
    have e8 : wrap64 (Int.tdiv (s : Int) 2) = ((s / 2 : Nat) : Int) := by rw [show (2 : Int) = ((2 : Nat) : Int) from rfl, tdiv_nat]; exact w64n _ (by omega)
    have hm : dig (x / s) (y / s) * q ≤ 3 * q := Nat.mul_le_mul_right _ (by omega)
    have hm2 : q * dig (x / s) (y / s) = dig (x / s) (y / s) * q := Nat.mul_comm _ _
    simp only [furlongref1_Cell.l0]
    have a1 := and_one (x / s) (by generalize x / s = z at bx; omega)
    have a2 := and_one (y / s) (by generalize y / s = z at by'; omega)
    rw [Nat.mod_eq_of_lt bx] at a1
    rw [Nat.mod_eq_of_lt by'] at a2
    rw [if_pos (by omega), if_neg (by omega), e4, e5, a1, a2, xor_dig _ _ bx by', hss, hs1, e2, e3, e8, ← Int.natCast_mul, hm2]
    generalize hD : dig (x / s) (y / s) * q = D at hm ih ⊢
    clear hx hy e2 e3 e4 e5 e6 e8 hss hs1 hm2 a1 a2
    generalize x / s = rx at *
    generalize y / s = ry at *
    have i2 := ih (d + (D : Int)) (by omega) (by omega) (by omega)
    rw [w64 (D : Int) (by omega) (by omega), w64 (d + (D : Int)) (by omega) (by omega)]
    unfold trn at i2 ⊢
    by_cases hr : ry = 1
    · rw [if_neg (by omega)]
      rw [if_pos hr] at i2 ⊢
      simp only at i2 ⊢
      rw [i2, Int.natCast_add]
      simp only [Option.some.injEq, Prod.mk.injEq, and_true]
      exact Int.add_assoc _ _ _
    · rw [if_pos (by omega)]
      rw [if_neg hr] at i2 ⊢
      by_cases hr2 : rx = 1
      · rw [if_pos (by omega)]
        rw [if_pos hr2] at i2 ⊢
        simp only at i2 ⊢
        rw [w64 ((s : Int) - 1 - ((y % s : Nat) : Int)) (by omega) (by omega), w64 ((s : Int) - 1 - ((x % s : Nat) : Int)) (by omega) (by omega),
          show (s : Int) - 1 - ((y % s : Nat) : Int) = ((s - 1 - y % s : Nat) : Int) by omega, show (s : Int) - 1 - ((x % s : Nat) : Int) = ((s - 1 - x % s : Nat) : Int) by omega, i2, Int.natCast_add]
        simp only [Option.some.injEq, Prod.mk.injEq, and_true]
        exact Int.add_assoc _ _ _
      · rw [if_neg (by omega)]
        rw [if_neg hr2] at i2 ⊢
        simp only at i2 ⊢
        rw [i2, Int.natCast_add]
        simp only [Option.some.injEq, Prod.mk.injEq, and_true]
        exact Int.add_assoc _ _ _
theorem refCell_eq (n k x y : Nat) (h1 : 1 ≤ n) (h2 : n ≤ 16) (hx : x < 2 ^ n) (hy : y < 2 ^ n) (hk : n + 1 < k) : furlongref1_Cell.f k (x : Int) (y : Int) (n : Int) = some (((hil n x y : Nat) : Int), 0) := by
  obtain ⟨k, rfl⟩ : ∃ m, k = m + 1 := ⟨k - 1, by omega⟩
  have b1 := shl_bound n h2 x
  have b2 := shl_bound n h2 y
  have h4 := pow4_le n h2
  have e : shl .i64 1 ((n : Int) - 1) = ((2 ^ n / 2 : Nat) : Int) := by
    obtain ⟨m, rfl⟩ : ∃ m, n = m + 1 := ⟨n - 1, by omega⟩
    rw [show ((m + 1 : Nat) : Int) - 1 = (m : Int) by omega, shl1 m (by omega), show (2 : Nat) ^ (m + 1) / 2 = 2 ^ m by rw [Nat.pow_succ]; omega]
  unfold furlongref1_Cell.f
  rw [if_neg (by omega), if_neg (by omega), if_neg (by omega), if_pos (by omega), if_neg (by rw [b1]; omega), if_neg (by omega), decide_eq_false (by rw [b2]; omega)]
  simp only [furlongref1_Cell.j0]
  rw [if_neg (show ¬ (false = true) by decide), w64 ((n : Int) - 1) (by omega) (by omega), if_pos (by omega), e, refcell_loop n k x y 0 h2 hx hy (by omega) (by generalize 4 ^ n = q at *; omega) (by omega)]
  simp
theorem refPointMay_eq (x y : Int) : furlongref1_PointMay.f x y = some (decide (0 ≤ x ∧ x ≤ 4294967295 ∧ 0 ≤ y ∧ y ≤ 4294967295)) := by
  unfold furlongref1_PointMay.f
  by_cases h1 : x ≥ 0
  · rw [if_pos h1]
    by_cases h2 : x ≤ 4294967295
    · rw [if_pos h2]
      by_cases h3 : y ≥ 0
      · rw [if_pos h3]; simp [show 0 ≤ x from h1, show 0 ≤ y from h3, h2]
      · rw [if_neg h3]; simp; omega
    · simp [h2]
  · rw [if_neg h1]; simp; omega
theorem refEncode_eq (k : Nat) (x y : Int) (hk : 20 ≤ k) : furlongref1_Encode.f k x y = some (if 0 ≤ x ∧ x ≤ 4294967295 ∧ 0 ≤ y ∧ y ≤ 4294967295 then (enc x y, 0) else (0, 500)) := by
  unfold furlongref1_Encode.f
  rw [refPointMay_eq]
  simp only [Option.bind_some]
  by_cases h : 0 ≤ x ∧ x ≤ 4294967295 ∧ 0 ≤ y ∧ y ≤ 4294967295
  · rw [decide_eq_true h, if_pos rfl, if_pos h]
    obtain ⟨a, rfl⟩ := Int.eq_ofNat_of_zero_le h.1
    obtain ⟨b, rfl⟩ := Int.eq_ofNat_of_zero_le h.2.2.1
    have := refCell_eq 16 k (a / 65536) (b / 65536) (by omega) (by omega) (by show _ < 65536; omega) (by show _ < 65536; omega) (by omega)
    have ea : wrap64 (Int.tdiv (a : Int) 65536) = ((a / 65536 : Nat) : Int) := by rw [show (65536 : Int) = ((65536 : Nat) : Int) from rfl, tdiv_nat]; exact w64 _ (by omega) (by omega)
    have eb : wrap64 (Int.tdiv (b : Int) 65536) = ((b / 65536 : Nat) : Int) := by rw [show (65536 : Int) = ((65536 : Nat) : Int) from rfl, tdiv_nat]; exact w64 _ (by omega) (by omega)
    rw [ea, eb, show (16 : Int) = ((16 : Nat) : Int) from rfl, this]
    simp only [Option.bind_some, Option.some.injEq, Prod.mk.injEq, and_true]
    unfold enc
    rw [Int.toNat_natCast, Int.toNat_natCast]
  · rw [decide_eq_false h, if_neg (show ¬ (false = true) by decide), if_neg h]
end Go.Proofs.YtibakeahgcakmaaGreatDoor
