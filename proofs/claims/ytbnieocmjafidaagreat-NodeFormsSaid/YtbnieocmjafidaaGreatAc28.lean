/- The abstract machine, 28: a region that draws its order: what holds all along. -/
import Derived.Test.YtbnieocmjafidaaGreatAc27
set_option linter.unusedVariables false
set_option linter.unusedSimpArgs false
namespace Go.Ab
variable {P : Program}

/-- Is an operation wanted? What the abstract machine says. -/
noncomputable def wantA (ops : Array Oper) (o : Oper) (S : AS) : Option Bool := match o.guard with
  | none => some true
  | some p => match (ops[p.1]?).bind (·.dst) with
    | none => some false
    | some t => match S.t.get (Pa.ofNat t) with
      | some (.bool b) => some (b == p.2)
      | some (.tuple _) => some false
      | _ => none
theorem wantA_congr {ops : Array Oper} {o : Oper} {S S' : AS} (h : ∀ t, guardT ops o = some t → S.t.get (Pa.ofNat t) = S'.t.get (Pa.ofNat t)) : wantA ops o S = wantA ops o S' := by
  unfold wantA guardT at *
  cases hg : o.guard with
  | none => rfl
  | some p =>
    rw [hg] at h
    simp only at h ⊢
    cases hj : (ops[p.1]?).bind (·.dst) with
    | none => rfl
    | some t => simp only [h t hj]
theorem wantA_sound {ops : Array Oper} {o : Oper} {S : AS} {b : Bool} (h : wantA ops o S = some b) {ρ : Rho} {tmps : Array Value} (ht : ∀ t, guardT ops o = some t → VR ρ (someV (S.t.get (Pa.ofNat t))) (tmps.getD t undef)) : Region.wanted o (yielded ops tmps) = b := by
  unfold wantA guardT at *
  cases hg : o.guard with
  | none => rw [hg] at h; obtain rfl := Option.some.inj h; simp [Region.wanted, hg]
  | some p =>
    obtain ⟨j, want⟩ := p
    rw [hg] at h ht
    simp only at h ht
    have hw : Region.wanted o (yielded ops tmps) = (yielded ops tmps j == some want) := by simp [Region.wanted, hg]
    rw [hw]
    cases hj : (ops[j]?).bind (·.dst) with
    | none =>
      rw [hj] at h
      obtain rfl := Option.some.inj h
      simp [yielded, hj]
    | some t =>
      rw [hj] at h
      have hrel := ht t hj
      simp only at h
      split at h
      · rename_i b' hv
        obtain rfl := Option.some.inj h
        rw [hv] at hrel
        have hval : tmps.getD t undef = .bool b' := hrel
        have hlt : t < tmps.size := by
          by_cases hlt : t < tmps.size
          · exact hlt
          · simp [Array.getD, hlt, undef] at hval
        rw [yielded_eq hj hlt, hval]
        cases b' <;> cases want <;> rfl
      · rename_i vs hv
        obtain rfl := Option.some.inj h
        rw [hv] at hrel
        obtain ⟨us, hval, _⟩ := hrel
        by_cases hlt : t < tmps.size
        · rw [yielded_eq hj hlt, hval]; rfl
        · rw [yielded_out hj hlt]; rfl
      · cases h
theorem guard_cases {ops : Array Oper} {o : Oper} {s un : StepF} {d : Option Pa} {q : StepF} (hq : guarded ops.toList o.guard s un d = some q) {sub : Sub} {S : AS} {H : AH} {k : AS → AH → Bool} (h : q sub S H k = true) :
    (wantA ops o S = some true ∧ s sub S H k = true) ∨ (wantA ops o S = some false ∧ (un sub S H k = true ∨ putK d undefA S H k = true)) := by
  unfold guarded at hq
  unfold wantA
  cases hg : o.guard with
  | none =>
    rw [hg] at hq
    obtain rfl := Option.some.inj hq
    exact .inl ⟨rfl, h⟩
  | some jw =>
    obtain ⟨j, want⟩ := jw
    rw [hg] at hq
    simp only at hq ⊢
    rw [dstAt_eq] at hq
    cases hj : (ops[j]?).bind (·.dst) with
    | none =>
      rw [hj] at hq
      obtain rfl := Option.some.inj hq
      exact .inr ⟨rfl, .inl h⟩
    | some t =>
      rw [hj] at hq
      simp only [forcePa_eq] at hq
      have hq' : some (stepIf (Pa.ofNat t) want s d) = some q := by cases want <;> exact hq
      obtain rfl := Option.some.inj hq'
      obtain ⟨v, hv, h⟩ := obB_eq.1 h
      simp only [hv]
      cases v with
      | bool b =>
        have h : cnd (beqB b want) (s sub S H k) (putK d undefA S H k) = true := h
        rw [beqB_eq] at h
        cases hb : (b == want) with
        | true => rw [hb] at h; exact .inl ⟨by simp [hb], h⟩
        | false => rw [hb] at h; exact .inr ⟨by simp [hb], .inr h⟩
      | tuple vs => exact .inr ⟨rfl, .inr h⟩
      | _ => cases h

/-- A heap that only has blocks besides. -/
def Ext (H0 H : AH) : Prop := ∀ b, H.get b = H0.get b ∨ (H0.get b = none ∧ H.get b ≠ some .dead)
theorem Ext.refl (H : AH) : Ext H H := fun _ => .inl rfl
theorem HQ.ext {n0 : Nat} {ρ : Rho} {H0 H : AH} {w : World} (h : HQ P n0 ρ H w) (he : Ext H0 H) : HQ P n0 ρ H0 w := by
  have nd : ∀ b, H0.get b ≠ some .dead → H.get b ≠ some .dead := fun b hb => by
    rcases he b with h1 | ⟨_, h1⟩
    · rw [h1]; exact hb
    · exact h1
  refine ⟨fun b b' l l' h1 h2 h3 h4 h5 => h.inj b b' l l' h1 h2 h3 (nd _ h4) (nd _ h5), fun b l hb => ?_⟩
  obtain ⟨h1, o, h2, h3⟩ := h.blk b l hb
  refine ⟨h1, o, h2, fun x hx => h3 x ?_⟩
  rcases he b with h4 | ⟨h4, _⟩
  · rw [h4]; exact hx
  · rw [h4] at hx; cases hx

/-- What an abstract heap promises: a block more, that is not laid yet. -/
theorem HR.promise {n0 : Nat} {ρ : Rho} {H : AH} {w : World} (h : HR P n0 ρ H w) (x : AB) : HR P n0 ρ (H.new x) w := by
  have hb : ρ H.nx = none := h.fresh _ (Nat.le_refl _)
  refine ⟨⟨fun b1 b2 l1 l2 h1 h2 hc hd1 hd2 => ?_, fun b1 l1 h1 => ?_⟩, fun b1 h1 => ?_, fun b1 h1 => ?_⟩
  · have e1 : b1 ≠ H.nx := fun e => by rw [e, hb] at h1; cases h1
    have e2 : b2 ≠ H.nx := fun e => by rw [e, hb] at h2; cases h2
    rw [AH.get_new, if_neg e1] at hd1
    rw [AH.get_new, if_neg e2] at hd2
    exact h.inj _ _ _ _ h1 h2 hc hd1 hd2
  · have e1 : b1 ≠ H.nx := fun e => by rw [e, hb] at h1; cases h1
    obtain ⟨hc, o', ho, hbr'⟩ := h.blk b1 l1 h1
    exact ⟨hc, o', ho, fun y hy => by rw [AH.get_new, if_neg e1] at hy; exact hbr' y hy⟩
  · rw [AH.nx_new] at h1; exact h.fresh b1 (by omega)
  · rw [AH.nx_new] at h1
    rw [AH.get_new, if_neg (fun e => by rw [e] at h1; omega)]; exact h.top b1 (by omega)
theorem Sim.promise {n0 : Nat} {ρ ρ' : Rho} {H H' : AH} {w w' : World} (h : Sim P n0 ρ H w ρ' H' w') (x : AB) : Sim P n0 ρ H w ρ' (H'.new x) w' :=
  ⟨h.le, h.hr.promise x, by rw [AH.nx_new]; have := h.nx; omega, fun b hb hn => by
    obtain ⟨h1, h2⟩ := h.old b hb hn
    refine ⟨h1, ?_⟩
    rw [AH.get_new, if_neg (fun e => by rw [e] at hb; have := h.nx; omega)]; exact h2, h.kept, h.newc, h.size, h.os, h.tape, h.output⟩
/-- A promised block is laid. -/
theorem Sim.keep {n0 : Nat} {ρ ρ' : Rho} {H H' : AH} {w w' : World} (h : Sim P n0 ρ H w ρ' H' w') (hn : n0 ≤ w.heap.size) {b : Pa} {x : AB} {n : Nat} {o : Obj} (hb : ρ' b = none) (hlo : H.nx.toNat ≤ b.toNat) (hlt : b.toNat < H'.nx.toNat) (hx : H'.get b = some x) (hbr : BR P ρ' x ⟨w'.heap.size, 0, n⟩ o) :
    Sim P n0 ρ H w (ρ'.add b ⟨w'.heap.size, 0, n⟩) H' (w'.alloc o) := by
  have hle : ρ'.le (ρ'.add b ⟨w'.heap.size, 0, n⟩) := Rho.le_add hb
  refine ⟨h.le.trans hle, h.hr.lay (Nat.le_trans hn h.size) hb hlt hx hbr, h.nx, fun b' hb' hn' => ?_, fun c hc hk => ?_, fun b' l hb' => ?_, ?_, h.os, h.tape, h.output⟩
  · obtain ⟨h1, h2⟩ := h.old b' hb' hn'
    have e : b' ≠ b := fun e => by rw [e] at hb'; omega
    exact ⟨by simp only [Rho.add, e, if_false]; exact h1, h2⟩
  · rw [RowKit.Below.heap_alloc _ _ _ (by have := h.size; omega)]; exact h.kept c hc hk
  · by_cases e : b' = b
    · simp only [Rho.add, e, if_true, Option.some.injEq] at hb'; subst hb'; exact .inl h.size
    · simp only [Rho.add, e, if_false] at hb'; exact h.newc b' l hb'
  · have := h.size; simp; omega

/-- What is listed, newest first: each behind all that are ahead of it. -/
def HistOk (l : List Do) : List Nat → Prop
  | [] => True
  | i :: h => i ∉ h ∧ (∃ x, l[i]? = some x ∧ ∀ q, has x.b q = true → q ∈ h) ∧ HistOk l h
theorem HistOk.ahead {l : List Do} : ∀ {h : List Nat}, HistOk l h → ∀ i x, i ∈ h → l[i]? = some x → ∀ q, has x.b q = true → q ∈ h
  | [], _, i, x, hi, _, _, _ => by cases hi
  | j :: h, ⟨_, ⟨y, hy, hq⟩, hh⟩, i, x, hi, hx, q, hb => by
    rcases List.mem_cons.1 hi with rfl | hi
    · rw [hx] at hy; cases hy; exact List.mem_cons_of_mem _ (hq q hb)
    · exact List.mem_cons_of_mem _ (hh.ahead i x hi hx q hb)
theorem HistOk.first {l : List Do} {D : Nat → Prop} : ∀ {h : List Nat}, HistOk l h → (∃ i, i ∈ h ∧ ¬ D i) → ∃ i x, i ∈ h ∧ ¬ D i ∧ l[i]? = some x ∧ ∀ q, has x.b q = true → D q
  | [], _, ⟨i, hi, _⟩ => by cases hi
  | j :: h, ⟨_, ⟨y, hy, hq⟩, hh⟩, hex => by
    by_cases hr : ∃ i, i ∈ h ∧ ¬ D i
    · obtain ⟨i, x, h1, h2, h3, h4⟩ := hh.first hr
      exact ⟨i, x, List.mem_cons_of_mem _ h1, h2, h3, h4⟩
    · have hall : ∀ q, q ∈ h → D q := fun q hqh => Classical.byContradiction fun hn => hr ⟨q, hqh, hn⟩
      obtain ⟨i, hi, hn⟩ := hex
      rcases List.mem_cons.1 hi with rfl | hi
      · exact ⟨i, y, by simp, hn, hy, fun q hb => hall q (hq q hb)⟩
      · exact absurd (hall i hi) hn

def DstV (S : AS) (o : Oper) (v : AV) : Prop := ∀ t, o.dst = some t → S.t.get (Pa.ofNat t) = some v
/-- An operation that the abstract machine has carried out ahead of the concrete one. -/
inductive Pend (ops : Array Oper) (Hs : AH) (ρ : Rho) (H : AH) (S : AS) (b : Pa) (x : Do) : Prop
  | skip (h1 : wantA ops x.o S = some false) (h2 : DstV S x.o undefA)
  | read (f : AS → AH → Option AV) (S0 : AS) (H0 : AH) (v : AV) (h0 : x.F = .read f) (h1 : wantA ops x.o S = some true) (h2 : ∀ t, Looks ops x.o t → S0.t.get (Pa.ofNat t) = S.t.get (Pa.ofNat t)) (h3 : Ext H0 H) (h4 : f S0 H0 = some v) (h5 : DstV S x.o v)
  | alloc (f : AS → Option (AK × AB)) (S0 : AS) (k : AK) (y : AB) (h0 : x.F = .alloc f) (h1 : wantA ops x.o S = some true) (h2 : ∀ t, Looks ops x.o t → S0.t.get (Pa.ofNat t) = S.t.get (Pa.ofNat t)) (h4 : f S0 = some (k, y)) (h5 : DstV S x.o (k.at b))
    (h6 : ρ b = none) (h7 : Hs.nx.toNat ≤ b.toNat) (h8 : b.toNat < H.nx.toNat) (h9 : H.get b = some y)

/-- What holds all along: 'D' is what the concrete machine has listed, 'hist' what the abstract one has carried out. -/
structure Inv (P : Program) (nt : Nat) (ops : Array Oper) (l : List Do) (n0 : Nat) (ρs : Rho) (Hs : AH) (ws : World) (ρ : Rho) (H : AH) (w : World) (S : AS) (a : Act) (hist : List Nat) (D : Nat → Prop) (β : Nat → Pa) : Prop where
  sim : Sim P n0 ρs Hs ws ρ H w
  size : a.tmps.size = nt
  marks : DR ρ S.d a.defers
  sub : ∀ i, D i → i ∈ hist
  closed : ∀ i x, D i → l[i]? = some x → ∀ q, has x.b q = true → D q
  hok : HistOk l hist
  tr : ∀ t, (∃ i x, i ∈ hist ∧ ¬ D i ∧ l[i]? = some x ∧ x.o.dst = some t) ∨ VR ρ (someV (S.t.get (Pa.ofNat t))) (a.tmps.getD t undef)
  pend : ∀ i x, i ∈ hist → ¬ D i → l[i]? = some x → Pend ops Hs ρ H S (β i) x
  apart : ∀ i j x y f g, i ∈ hist → j ∈ hist → ¬ D i → ¬ D j → l[i]? = some x → l[j]? = some y → x.F = .alloc f → y.F = .alloc g → wantA ops x.o S = some true → wantA ops y.o S = some true → β i = β j → i = j
end Go.Ab
