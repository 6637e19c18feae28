/- The abstract machine, 11: binary operations, conversions, lookups. -/
import Derived.Test.YtbnieocmjafidaaGreatAc10
set_option linter.unusedVariables false
set_option linter.unusedSimpArgs false
namespace Go.Ab
variable {P : Program}

/-! ### Binary operations -/
theorem str_of {ρ : Rho} {l n : Nat} {v : Value} (h : VR ρ (.str l n) v) : v = .string (strB l n) := h
theorem strEq_sound {ρ : Rho} {x y : AV} {b : Bool} {vx vy : Value} (hx : VR ρ x vx) (hy : VR ρ y vy) (h : strEq x y = some b) : ∃ s s', vx = .string s ∧ vy = .string s' ∧ b = decide (s = s') := by
  unfold strEq at h
  split at h
  · split at h
    · rename_i l n _ l' n' 
      obtain rfl := Option.some.inj h
      refine ⟨_, _, hx, hy, ?_⟩
      rw [nbeq, nbeq]
      by_cases e : l = l'
      · subst e
        simp only [decide_true, cond_true]
        exact decide_eq_decide.2 ⟨fun h => (strB_eq_iff _ _ _ _).2 ⟨rfl, h⟩, fun h => ((strB_eq_iff _ _ _ _).1 h).2⟩
      · simp only [e, decide_false, cond_false]
        exact (decide_eq_false fun h => e ((strB_eq_iff _ _ _ _).1 h).1).symm
    · cases h
  · cases h
theorem bytesEq_list (s s' : ByteArray) : (s.toList == s'.toList) = decide (s = s') := by
  rw [ByteArray.toList_eq, ByteArray.toList_eq]
  by_cases h : s = s'
  · subst h; simp
  · simp only [h, decide_false, beq_eq_false_iff_ne, ne_eq]
    intro e
    apply h
    apply ByteArray.ext
    exact Array.toList_inj.1 e
theorem addV_sound {ρ : Rho} {t : TypeId} {x y v : AV} {vx vy : Value} (hx : VR ρ x vx) (hy : VR ρ y vy) (h : addV x y = some v) (w : World) :
    ∃ v', (binOp .add t vx vy).run P w = .ok v' w ∧ VR ρ v v' := by
  have hi : intsV (arK addI) .add x y = some v → ∃ v', (binOp .add t vx vy).run P w = .ok v' w ∧ VR ρ v v' := fun h =>
    intsV_sound hx hy w (.inl (.inr (.inl rfl))) (fun k a b r hr => by
      obtain rfl := Option.some.inj hr
      exact ⟨_, by simp [binOp, Op.intArith]; rfl, by rw [wrapF_eq, addI_eq]; rfl⟩) h
  cases x <;> first | exact hi h | skip
  rename_i l n
  cases y <;> first | (have h : (none : Option AV) = some v := h; cases h; done) | skip
  rename_i l' n'
  have h : (bif Nat.ble (Nat.add l l') 1099511627776 then some (AV.str (Nat.add l l') (Nat.add (Nat.mod n (Nat.pow 256 l)) (Nat.mul (Nat.pow 256 l) n'))) else none) = some v := h
  obtain ⟨h1, h⟩ := cond_some h
  obtain rfl := Option.some.inj h
  rw [nble, decide_eq_true_eq] at h1
  rw [str_of hx, str_of hy]
  refine ⟨.string (strB l n ++ strB l' n'), ?_, ?_⟩
  · have h2 : ¬ (((strB l n).size + (strB l' n').size : Nat) : Int) > IntKind.i64.max := by
      rw [strB_size, strB_size]
      have h3 : l + l' ≤ 1099511627776 := h1
      have e : IntKind.i64.max = 9223372036854775807 := by decide
      rw [e]; omega
    simp only [binOp, Op.stringOp, h2, if_false]
    rfl
  · simp only [VR]
    rw [strB_append]
    rfl
theorem opV_sound {ρ : Rho} {op : BinOp} {f : AV → AV → Option AV} (hf : opV op = some f) {t : TypeId} {x y v : AV} {vx vy : Value} (hx : VR ρ x vx) (hy : VR ρ y vy) (h : f x y = some v) (w : World) :
    ∃ v', (binOp op t vx vy).run P w = .ok v' w ∧ VR ρ v v' := by
  cases op <;> simp only [opV] at hf <;> first | (cases hf; done) | skip
  all_goals obtain rfl := Option.some.inj hf
  case add => exact addV_sound hx hy h w
  case sub =>
    exact intsV_sound hx hy w (.inl (.inr (.inr (.inl rfl)))) (fun k a b r hr => by
        obtain rfl := Option.some.inj hr
        exact ⟨_, by simp [binOp, Op.intArith]; rfl, by rw [wrapF_eq, subI_eq]; rfl⟩) h
  case mul =>
    exact intsV_sound hx hy w (.inr fun _ _ _ _ _ => ⟨rfl, rfl⟩) (fun k a b r hr => by
        obtain rfl := Option.some.inj hr
        exact ⟨_, by simp [binOp, Op.intArith]; rfl, by rw [wrapF_eq, mulI_eq]; rfl⟩) h
  case quo =>
    exact intsV_sound hx hy w (.inr fun _ _ _ _ _ => ⟨rfl, rfl⟩) (fun k a b r hr => by
        obtain ⟨h1, hr⟩ := cond_none hr
        obtain rfl := Option.some.inj hr
        rw [eqI_eq, decide_eq_false_iff_not] at h1
        exact ⟨_, by simp [binOp, Op.intDiv, h1]; rfl, by rw [wrapF_eq, divI_eq]; rfl⟩) h
  case rem =>
    exact intsV_sound hx hy w (.inl (.inr (.inr (.inr (.inr rfl))))) (fun k a b r hr => by
        obtain ⟨h1, hr⟩ := cond_none hr
        obtain rfl := Option.some.inj hr
        rw [eqI_eq, decide_eq_false_iff_not] at h1
        exact ⟨_, by simp [binOp, Op.intDiv, h1]; rfl, by rw [remI_eq]; rfl⟩) h
  case and =>
    exact intsV_sound hx hy w (.inl (.inr (.inr (.inr (.inl rfl))))) (fun k a b r hr => by
        obtain rfl := Option.some.inj hr
        exact ⟨.int k (andG k a b), by simp [binOp, Op.intBits, andG], by rw [and_sound]; rfl⟩) h
  case or =>
    exact intsV_sound hx hy w (.inr fun _ _ _ _ _ => ⟨rfl, rfl⟩) (fun k a b r hr => by
        obtain rfl := Option.some.inj hr
        exact ⟨.int k (orG k a b), by simp [binOp, Op.intBits, orG], by rw [or_sound]; rfl⟩) h
  case xor =>
    exact intsV_sound hx hy w (.inr fun _ _ _ _ _ => ⟨rfl, rfl⟩) (fun k a b r hr => by
        obtain rfl := Option.some.inj hr
        exact ⟨.int k (xorG k a b), by simp [binOp, Op.intBits, xorG], by rw [xor_sound]; rfl⟩) h
  case shl =>
    unfold shiftV at h
    split at h
    · split at h
      · rename_i k a _ k' b
        obtain ⟨c, hc, h⟩ := ob_eq_some.1 h
        obtain rfl := Option.some.inj h
        obtain ⟨h1, rfl⟩ := shl_sound hc
        simp only [VR] at hx hy
        subst hx hy
        exact ⟨_, by simp only [binOp, Op.shift, h1, if_false]; rfl, rfl⟩
      · cases h
    · cases h
  case shr =>
    unfold shiftV at h
    split at h
    · split at h
      · rename_i k a _ k' b
        obtain ⟨c, hc, h⟩ := ob_eq_some.1 h
        obtain rfl := Option.some.inj h
        obtain ⟨h1, rfl⟩ := shr_sound hc
        simp only [VR] at hx hy
        subst hx hy
        exact ⟨_, by simp only [binOp, Op.shift, h1, if_false]; rfl, rfl⟩
      · cases h
    · cases h
  case lss =>
    exact intsV_sound hx hy w (.inl (.inl rfl)) (fun k a b r hr => by
        obtain rfl := Option.some.inj hr
        exact ⟨.bool (decide (a < b)), by simp [binOp, Op.intCmp], by rw [ltI_eq]; rfl⟩) h
  case leq =>
    exact intsV_sound hx hy w (.inl (.inl rfl)) (fun k a b r hr => by
        obtain rfl := Option.some.inj hr
        exact ⟨.bool (decide (a ≤ b)), by simp [binOp, Op.intCmp], by rw [leI_eq]; rfl⟩) h
  case gtr =>
    exact intsV_sound hx hy w (.inl (.inl rfl)) (fun k a b r hr => by
        obtain rfl := Option.some.inj hr
        exact ⟨.bool (decide (a > b)), by simp [binOp, Op.intCmp], by rw [gtI_eq]; rfl⟩) h
  case geq =>
    exact intsV_sound hx hy w (.inl (.inl rfl)) (fun k a b r hr => by
        obtain rfl := Option.some.inj hr
        exact ⟨.bool (decide (a ≥ b)), by simp [binOp, Op.intCmp], by rw [geI_eq]; rfl⟩) h
theorem eqInt_sound {ρ : Rho} {t : TypeId} {x y v : AV} {vx vy : Value} (hx : VR ρ x vx) (hy : VR ρ y vy) (h : intsV (cmpK eqI) .eql x y = some v) (w : World) : ∃ v', (binOp .eql t vx vy).run P w = .ok v' w ∧ VR ρ v v' :=
  intsV_sound hx hy w (.inl (.inl rfl)) (fun k a b r hr => by
        obtain rfl := Option.some.inj hr
        exact ⟨.bool (a == b), by simp [binOp, Op.intCmp], by rw [eqI_eq]; rfl⟩) h
theorem neInt_sound {ρ : Rho} {t : TypeId} {x y v : AV} {vx vy : Value} (hx : VR ρ x vx) (hy : VR ρ y vy) (h : intsV (cmpK neI) .neq x y = some v) (w : World) : ∃ v', (binOp .neq t vx vy).run P w = .ok v' w ∧ VR ρ v v' :=
  intsV_sound hx hy w (.inl (.inl rfl)) (fun k a b r hr => by
        obtain rfl := Option.some.inj hr
        refine ⟨.bool (a != b), by simp [binOp, Op.intCmp], ?_⟩
        rw [neI_eq]
        simp only [VR]
        congr 1
        by_cases e : a = b <;> simp [e]) h

/-! ### Equality -/
theorem clean_frozen {n0 : Nat} {ρ : Rho} {H : AH} {w : World} (hr : HQ P n0 ρ H w) {b : Pa} {l : Loc} (hb : ρ b = some l) (hc : cleanAt H b = true) :
    (∃ e n, w.shape? l.c = some (e, n)) ∧ ∀ i, w.frozen? ⟨l.c, i, none⟩ = false := by
  unfold cleanAt at hc
  split at hc
  · rename_i cs cl hx
    subst hc
    obtain ⟨arr, el, fz, hw, hn, hrow, hf, hcl⟩ := hr.cellsOf hb hx
    have := hcl rfl
    refine ⟨⟨el, arr.size, by simp [World.shape?, hw]⟩, fun i => frozen_of hw (by omega)⟩
  · cases hc
theorem equal_ptr {t e : TypeId} {n : Nat} (hu : P.underlying t = some (.pointer e)) (hn : sz P e = some n) (h0 : n ≠ 0) (a b : Addr) (w : World) : (Op.equal t (.pointer (some a)) (.pointer (some b))).run P w = (sameAddr a b).run P w := by
  unfold Op.equal Op.maxDepth Op.equalIn
  simp only [Sem.run_bind, under_run hu, Result.andThen, sz_run hn, ne_eq, h0, not_false_eq_true, if_true]
theorem sameAddr_same (c i j : Nat) (w : World) : (sameAddr ⟨c, i, none⟩ ⟨c, j, none⟩).run P w = .ok (decide (i = j)) w := by
  unfold sameAddr
  simp only [beq_self_eq_true, if_true, Sem.run_pure]
  congr 1
  by_cases h : i = j
  · subst h; simp
  · simp [h]
theorem sameAddr_other {c c' i j : Nat} (h : c ≠ c') {w : World} (h1 : ∃ e n, w.shape? c = some (e, n)) (h2 : ∃ e n, w.shape? c' = some (e, n)) (f1 : ∀ i, w.frozen? ⟨c, i, none⟩ = false) (f2 : ∀ i, w.frozen? ⟨c', i, none⟩ = false) :
    (sameAddr ⟨c, i, none⟩ ⟨c', j, none⟩).run P w = .ok false w := by
  obtain ⟨e1, n1, h1⟩ := h1
  obtain ⟨e2, n2, h2⟩ := h2
  have fr : ∀ (a : Addr), (frozen a).run P w = .ok (w.frozen? a) w := fun a => rfl
  have sh : ∀ (r : Nat), (shape r).run P w = .ok (w.shape? r) w := fun r => rfl
  unfold sameAddr
  have hb : (c == c') = false := by simpa using h
  simp only [hb, Bool.false_eq_true, if_false, Sem.run_bind, fr, f1, f2, Result.andThen, Sem.run_pure, noView, viewAt, sh, h1, h2, Option.isSome_some, if_true, mayBeOne, stringish, Bool.false_and, Bool.and_false, Bool.or_false, Option.isSome_none]
theorem ptrEq_sound {n0 : Nat} {ρ : Rho} {H : AH} {w : World} (hr : HQ P n0 ρ H w) {t e : TypeId} {n : Nat} (hu : P.underlying t = some (.pointer e)) (hn : sz P e = some n) (h0 : n ≠ 0) {x y : AV} {b : Bool} {vx vy : Value} (hx : VR ρ x vx) (hy : VR ρ y vy) (h : ptrEq H x y = some b) :
    (Op.equal t vx vy).run P w = .ok b w := by
  have nil1 : ∀ q, (Op.equal t (.pointer none) (.pointer q)).run P w = .ok q.isNone w := fun q => by
    unfold Op.equal Op.maxDepth Op.equalIn
    simp only [Sem.run_bind, under_run hu, Result.andThen, Sem.run_pure]
  have nil2 : ∀ q, (Op.equal t (.pointer (some q)) (.pointer none)).run P w = .ok false w := fun q => by
    unfold Op.equal Op.maxDepth Op.equalIn
    simp only [Sem.run_bind, under_run hu, Result.andThen, Sem.run_pure]
  unfold ptrEq at h
  split at h
  · simp only [VR] at hx; subst hx
    split at h
    · simp only [VR] at hy; subst hy
      obtain rfl := Option.some.inj h
      exact nil1 _
    · simp only [VR] at hy; obtain ⟨l, _, rfl⟩ := hy
      obtain rfl := Option.some.inj h
      exact nil1 _
    · cases h
  · rename_i bx ox
    simp only [VR] at hx; obtain ⟨l, hl, rfl⟩ := hx
    split at h
    · simp only [VR] at hy; subst hy
      obtain rfl := Option.some.inj h
      exact nil2 _
    · rename_i by' oy
      simp only [VR] at hy; obtain ⟨l', hl', rfl⟩ := hy
      obtain ⟨hc1, h⟩ := cond_some h
      obtain ⟨hc2, h⟩ := cond_some h
      obtain rfl := Option.some.inj h
      have hlive : ∀ {q : Pa}, cleanAt H q = true → H.get q ≠ some .dead := fun {q} hq e => by
        unfold cleanAt at hq; rw [e] at hq; cases hq
      rw [equal_ptr hu hn h0, Pa.same_eq, nbeq]
      by_cases e : bx = by'
      · subst e
        rw [hl, Option.some.injEq] at hl'
        subst hl'
        rw [sameAddr_same]
        simp
      · have hne : l.c ≠ l'.c := fun h => e (hr.inj _ _ _ _ hl hl' h (hlive hc1) (hlive hc2))
        obtain ⟨s1, f1⟩ := clean_frozen hr hl hc1
        obtain ⟨s2, f2⟩ := clean_frozen hr hl' hc2
        rw [sameAddr_other hne s1 s2 f1 f2]
        simp [e]
    · cases h
  · cases h
end Go.Ab
