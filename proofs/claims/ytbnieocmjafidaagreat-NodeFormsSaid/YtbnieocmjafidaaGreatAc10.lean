/- The abstract machine, 10: slices, strings, comparisons, numbers. -/
import Derived.Test.YtbnieocmjafidaaGreatAc9
import Derived.Laws.BytesString
set_option linter.unusedVariables false
set_option linter.unusedSimpArgs false
namespace Go.Ab
variable {P : Program}

/-! ### Strings -/
theorem strL_drop (l n k : Nat) : (strL l n).drop k = strL (l - k) (n / 256 ^ k) := by
  apply List.ext_getElem?
  intro i
  rw [List.getElem?_drop]
  by_cases h : k + i < l
  · simp [strL, h, show i < l - k by omega, Nat.pow_add, Nat.div_div_eq_div_mul]
  · simp [strL, h, show ¬ i < l - k by omega]
theorem strL_take (l n k : Nat) (h : k ≤ l) : (strL l n).take k = strL k n := by
  apply List.ext_getElem?
  intro i
  by_cases hi : i < k
  · simp [strL, hi, show i < l by omega]
  · simp [strL, hi]; omega
theorem strL_mod (l n : Nat) : strL l (n % 256 ^ l) = strL l n := by
  apply List.ext_getElem?
  intro i
  by_cases h : i < l
  · have : n % 256 ^ l / 256 ^ i % 256 = n / 256 ^ i % 256 := by
      have e : 256 ^ l = 256 ^ i * 256 ^ (l - i) := by rw [← Nat.pow_add]; congr 1; omega
      rw [e, Nat.mod_mul_right_div_self]
      have e2 : 256 ^ (l - i) = 256 * 256 ^ (l - i - 1) := by rw [← Nat.pow_succ']; congr 1; omega
      rw [e2, Nat.mod_mul_right_mod]
    simp [strL, h, this]
  · simp [strL, h]
theorem strL_inj : ∀ (l n m : Nat), strL l n = strL l m → n % 256 ^ l = m % 256 ^ l
  | 0, n, m, _ => by simp [Nat.mod_one]
  | l + 1, n, m, h => by
    have h1 : strL (l + 1) (n % 256 + 256 * (n / 256)) = strL (l + 1) (m % 256 + 256 * (m / 256)) := by
      rw [Nat.mod_add_div, Nat.mod_add_div]; exact h
    have e1 : ∀ q, q % 256 = (UInt8.ofNat (q % 256)).toNat := fun q => by simp
    rw [e1 n, e1 m, strL_cons, strL_cons] at h1
    obtain ⟨h2, h3⟩ := List.cons.inj h1
    have h4 := strL_inj l _ _ h3
    have h5 : n % 256 = m % 256 := by rw [e1 n, e1 m, h2]
    have e3 : ∀ q, q % 256 ^ (l + 1) = q % 256 + 256 * (q / 256 % 256 ^ l) := fun q => by
      rw [Nat.pow_succ', Nat.mod_mul]
    rw [e3 n, e3 m, h4, h5]
theorem strB_eq_iff (l n l' n' : Nat) : strB l n = strB l' n' ↔ l = l' ∧ n % 256 ^ l = n' % 256 ^ l := by
  constructor
  · intro h
    have h1 : strL l n = strL l' n' := by
      have := congrArg (fun b : ByteArray => b.data.toList) h
      simpa [strB] using this
    have h2 : l = l' := by have := congrArg List.length h1; simpa [strL_length] using this
    subst h2
    exact ⟨rfl, strL_inj _ _ _ h1⟩
  · rintro ⟨rfl, h⟩
    unfold strB
    rw [← strL_mod l n, ← strL_mod l n', h]
theorem strB_toList (l n : Nat) : (strB l n).toList = strL l n := by
  rw [ByteArray.toList_eq]; simp [strB]
theorem strB_extract (l n a b : Nat) (h1 : a ≤ b) (h2 : b ≤ l) : (strB l n).extract a b = strB (b - a) (n / 256 ^ a % 256 ^ (b - a)) := by
  have : ((strB l n).extract a b).data.toList = strL (b - a) (n / 256 ^ a % 256 ^ (b - a)) := by
    rw [strL_mod, ← strL_take (l - a) _ _ (by omega), ← strL_drop]
    simp [strB, ByteArray.data_extract, List.extract_eq_take_drop]
  exact ByteArray.ext (by
    apply Array.toList_inj.1
    rw [this]; simp [strB])
theorem strB_append (l n l' n' : Nat) : strB l n ++ strB l' n' = strB (l + l') (n % 256 ^ l + 256 ^ l * n') := by
  have h : strL l n ++ strL l' n' = strL (l + l') (n % 256 ^ l + 256 ^ l * n') := by
    have h1 := strL_take (l + l') (n % 256 ^ l + 256 ^ l * n') l (by omega)
    have h2 := strL_drop (l + l') (n % 256 ^ l + 256 ^ l * n') l
    rw [← List.take_append_drop l (strL (l + l') (n % 256 ^ l + 256 ^ l * n')), h1, h2]
    have hp : 0 < 256 ^ l := Nat.pos_of_ne_zero (by simp)
    congr 1
    · rw [← strL_mod l n, ← strL_mod l (n % 256 ^ l + 256 ^ l * n')]
      congr 1
      simp
    · congr 1
      · omega
      · rw [Nat.add_mul_div_left _ _ hp, Nat.div_eq_of_lt (Nat.mod_lt _ hp)]; omega
  apply ByteArray.ext
  apply Array.toList_inj.1
  simp only [strB, ByteArray.data_append, Array.toList_append]
  exact h

/-! ### Bounds -/
/-- Operands that may be there. -/
def OO (ρ : Rho) (S : AS) (e : Operand → Value) (x : Option Operand) (f : Option Opd) : Prop := match x, f with
  | none, none => True
  | some x, some f => VR ρ (f S) (e x)
  | _, _ => False
theorem OO.of {ρ : Rho} {S : AS} {e : Operand → Value} {x : Option Operand} {f : Option Opd} (hf : opO x = some f) (h : ∀ y, x = some y → OR ρ S e y) : OO ρ S e x f := by
  cases x with
  | none => obtain rfl := Option.some.inj hf; trivial
  | some x =>
    obtain ⟨g, hg, hf⟩ := ob_eq_some.1 hf
    obtain rfl := Option.some.inj hf
    exact h x rfl g hg
theorem bnd_sound {ρ : Rho} {S : AS} {e : Operand → Value} {d i : Nat} {x : Option Operand} {f : Option Opd} (h : OO ρ S e x f) (hb : bnd S d f = some i) :
    (x = none ∧ f = none ∧ i = d) ∨ ∃ y k, x = some y ∧ e y = .int k (Int.ofNat i) := by
  cases x with
  | none => cases f with
    | none => exact .inl ⟨rfl, rfl, (Option.some.inj hb).symm⟩
    | some f => exact h.elim
  | some x => cases f with
    | none => exact h.elim
    | some f =>
      obtain ⟨k, hk⟩ := bnd_some hb
      have h : VR ρ (f S) (e x) := h
      rw [hk] at h
      exact .inr ⟨x, k, rfl, h⟩
theorem run_sliceBound {k : IntKind} {i y : Nat} (h : i ≤ y) (code : BoundsCode) (w : World) : (Instr.sliceBound (.int k (Int.ofNat i)) y code).run P w = .ok i w := by
  have : (0 : Int) ≤ Int.ofNat i ∧ Int.ofNat i ≤ (y : Int) := ⟨by simp, by simpa using h⟩
  simp [Instr.sliceBound, Sem.run_bind, asIntOf, Result.andThen, h]
theorem run_sliceBounds {ρ : Rho} {S : AS} {e : Operand → Value} (sl : Bool) {len cap l h m : Nat} {lo hi mx : Option Operand} {fl fh fm : Option Opd} (h1 : OO ρ S e lo fl) (h2 : OO ρ S e hi fh) (h3 : OO ρ S e mx fm)
    (b1 : bnd S 0 fl = some l) (b2 : bnd S len fh = some h) (b3 : bnd S cap fm = some m) (hlh : l ≤ h) (hhm : h ≤ m) (hmc : m ≤ cap) (hx : mx.isSome = true → hi.isSome = true) (w : World) :
    (Instr.sliceBounds sl len cap (lo.map e) (hi.map e) (mx.map e)).run P w = .ok (l, h, m) w := by
  unfold Instr.sliceBounds
  rcases bnd_sound h3 b3 with ⟨rfl, _, rfl⟩ | ⟨y3, k3, rfl, e3⟩ <;> rcases bnd_sound h2 b2 with ⟨rfl, _, rfl⟩ | ⟨y2, k2, rfl, e2⟩ <;> rcases bnd_sound h1 b1 with ⟨rfl, _, rfl⟩ | ⟨y1, k1, rfl, e1⟩ <;>
    (try (simp at hx; done)) <;>
    simp only [Option.map_none, Option.map_some, Sem.run_bind, Sem.run_pure, Result.andThen, *, run_sliceBound hlh, run_sliceBound hhm, run_sliceBound hmc, Option.isSome_some, Option.isSome_none]
theorem slStr_sound {t : TypeId} (hu : P.underlying t = some .string) {ρ : Rho} {S : AS} {H : AH} {e : Operand → Value} {x : Opd} {v : AV} {vx : Value} {lo hi : Option Operand} {fl fh : Option Opd} (hx : VR ρ (x S) vx) (h1 : OO ρ S e lo fl) (h2 : OO ρ S e hi fh)
    (h : slStr x fl fh S H = some v) (w : World) : ∃ v', (Instr.sliceAt t vx (lo.map e) (hi.map e) none).run P w = .ok v' w ∧ VR ρ v v' := by
  unfold slStr at h
  split at h
  · rename_i len n hxe
    obtain ⟨l, hl, h⟩ := ob_eq_some.1 h
    obtain ⟨r, hr, h⟩ := ob_eq_some.1 h
    obtain ⟨hc, h⟩ := cond_some h
    obtain rfl := Option.some.inj h
    rw [hxe] at hx
    simp only [VR] at hx
    subst hx
    simp only [Bool.and_eq_true, nble, decide_eq_true_eq] at hc
    have hb := run_sliceBounds (P := P) (mx := none) (fm := none) false (cap := len) (m := len) h1 h2 trivial hl hr rfl hc.1 hc.2 (Nat.le_refl _) (by simp) w
    refine ⟨.string ((strB len n).extract l r), ?_, ?_⟩
    · simp only [Option.map_none] at hb
      simp [Instr.sliceAt, Instr.slice, Sem.run_bind, under_run hu, Result.andThen, strB_size, hb]
    · simp only [VR]
      rw [strB_extract _ _ _ _ hc.1 hc.2]
      rfl
  · cases h
theorem slAt_sound {b : Pa} {off n l h m m' : Nat} {op : Option Nat} {v : AV} (hh : slAt b off n l h m op = some v) (hm : m ≤ m') (hop : op = none → m' = m) {ρ : Rho} {lc : Loc} (hb : ρ b = some lc) (hz : ∀ z, op = some z → lc.s + off + m' * z ≤ lc.n) :
    l ≤ h ∧ h ≤ m ∧ VR ρ v (.slice (some (if m' = l then ⟨lc.c, lc.s + off, none⟩ else (⟨lc.c, lc.s + off, none⟩ : Addr).add (l * n))) (h - l) (m' - l)) := by
  unfold slAt at hh
  obtain ⟨hc, hh⟩ := cond_some hh
  simp only [Bool.and_eq_true, nble, decide_eq_true_eq] at hc
  refine ⟨hc.1, hc.2, ?_⟩
  cases h0 : Nat.beq l 0 with
  | true =>
    rw [h0] at hh
    obtain rfl := Option.some.inj hh
    rw [nbeq, decide_eq_true_eq] at h0
    subst h0
    simp only [VR]
    refine ⟨lc, m', hb, ?_, hm, hop, fun z hz' => hz z hz'⟩
    simp [Addr.add]
  | false =>
    rw [h0] at hh
    simp only [cond_false] at hh
    cases h1 : Nat.blt l m with
    | true =>
      rw [h1] at hh
      simp only [cond_true] at hh
      obtain ⟨hop2, hh⟩ := cnd_some hh
      obtain rfl := Option.some.inj hh
      rw [nblt, decide_eq_true_eq] at h1
      simp only [VR]
      refine ⟨lc, m' - l, hb, ?_, by show m - l ≤ _; omega, fun e => by have := hop e; show m' - l = m - l; omega, fun z hz' => ?_⟩
      · rw [if_neg (by omega), addr_add, Nat.add_assoc]; rfl
      · have h2 := hz z hz'
        subst hz'
        simp only [opIs, nbeq, decide_eq_true_eq] at hop2
        subst hop2
        show lc.s + (off + l * z) + (m' - l) * z ≤ lc.n
        have : m' * z = l * z + (m' - l) * z := by rw [← Nat.add_mul]; congr 1; omega
        omega
    | false =>
      rw [h1] at hh
      rw [nblt, decide_eq_false_iff_not] at h1
      have e1 : l = m := by omega
      cases op with
      | none =>
        obtain rfl := Option.some.inj hh
        have := hop rfl
        simp only [VR]
        refine ⟨lc, 0, hb, ?_, Nat.le_refl _, fun _ => rfl, fun z hz' => by cases hz'⟩
        rw [if_pos (by omega)]
        have e2 : m' - l = 0 := by omega
        rw [e2]; rfl
      | some z =>
        obtain rfl := Option.some.inj hh
        simp only [VR]
        have e2 : h - l = 0 := by omega
        rw [e2]
        exact ⟨_, _, rfl⟩
theorem slSl_sound {t elem : TypeId} {n : Nat} (hu : P.underlying t = some (.slice elem)) (hn : sz P elem = some n) {ρ : Rho} {S : AS} {H : AH} {e : Operand → Value} {x : Opd} {v : AV} {vx : Value} {lo hi mx : Option Operand} {fl fh fm : Option Opd} (hx : VR ρ (x S) vx) (h1 : OO ρ S e lo fl) (h2 : OO ρ S e hi fh) (h3 : OO ρ S e mx fm)
    (hmh : mx.isSome = true → hi.isSome = true)
    (h : slSl n x fl fh fm S H = some v) (w : World) : ∃ v', (Instr.sliceAt t vx (lo.map e) (hi.map e) (mx.map e)).run P w = .ok v' w ∧ VR ρ v v' := by
  unfold slSl at h
  split at h
  · rename_i b off len cap op hxe
    obtain ⟨l, hl, h⟩ := ob_eq_some.1 h
    obtain ⟨r, hr, h⟩ := ob_eq_some.1 h
    rw [hxe] at hx
    simp only [VR] at hx
    obtain ⟨lc, cap', hb, rfl, hcap, hop, hlim⟩ := hx
    cases fm with
    | none =>
      simp only at h
      obtain ⟨e1, e2, e3⟩ := slAt_sound h hcap hop hb (fun z hz' => hlim z hz')
      have hmx : mx = none := by cases mx with | none => rfl | some y => exact h3.elim
      subst hmx
      have hb := run_sliceBounds (P := P) (mx := none) (fm := none) true (cap := cap') (m := cap') h1 h2 trivial hl hr rfl e1 (by omega) (Nat.le_refl _) (by simp) w
      simp only [Option.map_none] at hb
      refine ⟨_, ?_, e3⟩
      simp [Instr.sliceAt, Instr.slice, Sem.run_bind, under_run hu, Result.andThen, sz_run hn, hb]
      split <;> rfl
    | some fm =>
      simp only at h
      obtain ⟨m, hm, h⟩ := ob_eq_some.1 h
      obtain ⟨hmc, h⟩ := cond_some h
      rw [nble, decide_eq_true_eq] at hmc
      obtain ⟨e1, e2, e3⟩ := slAt_sound h (Nat.le_refl _) (fun _ => rfl) hb (fun z hz' => by cases hz')
      obtain ⟨y, k, rfl, _⟩ : ∃ y k, mx = some y ∧ e y = .int k (Int.ofNat m) := by
        rcases bnd_sound h3 hm with ⟨_, h0, _⟩ | h0
        · cases h0
        · exact h0
      have hb := run_sliceBounds (P := P) true (cap := cap') (m := m) h1 h2 h3 hl hr (by simpa [bnd] using hm) e1 (by omega) (by omega) hmh w
      refine ⟨_, ?_, e3⟩
      simp [Instr.sliceAt, Instr.slice, Sem.run_bind, under_run hu, Result.andThen, sz_run hn] at hb ⊢
      rw [hb]
      simp
      split <;> rfl
  · rename_i hxe
    obtain ⟨l, hl, h⟩ := ob_eq_some.1 h
    obtain ⟨r, hr, h⟩ := ob_eq_some.1 h
    obtain ⟨m, hm, h⟩ := ob_eq_some.1 h
    obtain ⟨hc, h⟩ := cond_some h
    obtain rfl := Option.some.inj h
    simp only [Bool.and_eq_true, nbeq, decide_eq_true_eq] at hc
    obtain ⟨⟨rfl, rfl⟩, rfl⟩ := hc
    rw [hxe] at hx
    simp only [VR] at hx
    subst hx
    have hb := run_sliceBounds (P := P) true (cap := 0) (m := 0) h1 h2 h3 hl hr hm (Nat.le_refl _) (Nat.le_refl _) (Nat.le_refl _) hmh w
    refine ⟨.slice none 0 0, ?_, rfl⟩
    simp [Instr.sliceAt, Instr.slice, Sem.run_bind, under_run hu, Result.andThen, sz_run hn, hb]
  · rename_i hxe
    obtain ⟨l, hl, h⟩ := ob_eq_some.1 h
    obtain ⟨r, hr, h⟩ := ob_eq_some.1 h
    rw [hxe] at hx
    simp only [VR] at hx
    obtain ⟨a, cap', rfl⟩ := hx
    cases fm with
    | some fm => cases h
    | none =>
      simp only at h
      obtain ⟨hc, h⟩ := cond_some h
      obtain rfl := Option.some.inj h
      simp only [Bool.and_eq_true, nbeq, decide_eq_true_eq] at hc
      obtain ⟨rfl, rfl⟩ := hc
      have hmx : mx = none := by cases mx with | none => rfl | some y => exact h3.elim
      subst hmx
      have hb := run_sliceBounds (P := P) (mx := none) (fm := none) true (len := 0) (cap := cap') (m := cap') h1 h2 trivial hl hr rfl (Nat.le_refl _) (Nat.zero_le _) (Nat.le_refl _) (by simp) w
      simp only [Option.map_none] at hb
      refine ⟨.slice (some (if cap' = 0 then a else a.add 0)) 0 cap', ?_, _, _, rfl⟩
      simp [Instr.sliceAt, Instr.slice, Sem.run_bind, under_run hu, Result.andThen, sz_run hn, hb]
      split <;> rfl
  · cases h
end Go.Ab
