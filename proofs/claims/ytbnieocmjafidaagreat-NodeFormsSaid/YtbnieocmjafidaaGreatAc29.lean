/- The abstract machine, 29: a region that draws its order: the three kinds of step. -/
import Derived.Test.YtbnieocmjafidaaGreatAc28
set_option linter.unusedVariables false
set_option linter.unusedSimpArgs false
namespace Go.Ab
variable {P : Program}

/-- What is known of a region. -/
structure Reg (P : Program) (nt : Nat) (ops : Array Oper) (l : List Do) : Prop where
  len : l.length = ops.size
  op : ∀ (i : Nat) x, l[i]? = some x → ops[i]? = some x.o ∧ DoOk P nt ops ((l.take i).map (·.b)) x.o x
  once : ∀ (i j : Nat) x y t, i ≠ j → l[i]? = some x → l[j]? = some y → x.o.dst = some t → y.o.dst ≠ some t
  own : ∀ (i : Nat) x t, l[i]? = some x → Looks ops x.o t → x.o.dst ≠ some t
  behind : ∀ (i j : Nat) y x t, l[i]? = some y → l[j]? = some x → i ≠ j → y.o.dst = some t → Looks ops x.o t → has x.b i = true ∨ i = freeOf l
theorem reg_of {nt : Nat} {ops : Array Oper} {l : List Do} (h : doL P nt ops.toList ops.toList [] = some l) (hp : plainD l = true) : Reg P nt ops l := by
  obtain ⟨h1, h2⟩ := doL_spec h
  obtain ⟨p1, p2, p3⟩ := plainD_spec hp
  have hop : ∀ (i : Nat) x, l[i]? = some x → ops[i]? = some x.o ∧ DoOk P nt ops ((l.take i).map (·.b)) x.o x := fun i x hx => by
    have hlt : i < ops.size := by have := (List.getElem?_eq_some_iff.1 hx).1; simp at h1; omega
    have ho : ops.toList[i]? = some ops[i] := by simp [hlt]
    obtain ⟨y, hy, hd⟩ := h2 i _ ho
    rw [hx, Option.some.injEq] at hy
    subst hy
    rw [hd.eo]
    exact ⟨by simp [hlt], by simpa using hd⟩
  refine ⟨by simpa using h1, hop, fun i j x y t hne hx hy hd hd' => ?_, fun i x t hx hlk hd => ?_, fun i j y x t hy hx hne hd hlk => ?_⟩
  · exact p1 i j x y hne hx hy t ⟨((hop i x hx).2.w t).2 hd, ((hop j y hy).2.w t).2 hd'⟩
  · exact p2 i x hx t ⟨((hop i x hx).2.lk t).2 hlk, ((hop i x hx).2.w t).2 hd⟩
  · exact p3 i j y x hy hx hne t (((hop i y hy).2.w t).2 hd) (((hop j x hx).2.lk t).2 hlk)

theorem put_same {nt : Nat} {o : Oper} {d : Option Pa} (hd : dstE nt o.dst = some d) {v : AV} {S : AS} : DstV ⟨putD d v S.t, S.d⟩ o v := fun t ht => by
  rcases dstE_some hd with ⟨h1, _⟩ | ⟨u, h1, _, rfl⟩
  · rw [h1] at ht; cases ht
  · rw [h1, Option.some.injEq] at ht
    subst ht
    show (S.t.put (Pa.ofNat u) v).get (Pa.ofNat u) = some v
    rw [PT.get_put, if_pos rfl]
theorem put_other {nt : Nat} {o : Oper} {d : Option Pa} (hd : dstE nt o.dst = some d) {v : AV} {S : AS} {t : Nat} (ht : o.dst ≠ some t) : (putD d v S.t).get (Pa.ofNat t) = S.t.get (Pa.ofNat t) := by
  rcases dstE_some hd with ⟨h1, rfl⟩ | ⟨u, h1, _, rfl⟩
  · rfl
  · show (S.t.put (Pa.ofNat u) v).get (Pa.ofNat t) = _
    rw [PT.get_put, if_neg]
    intro e
    apply ht
    rw [h1, Pa.ofNat_inj e]
theorem Ext.trans {H0 H H' : AH} (h : Ext H0 H) (h' : Ext H H') : Ext H0 H' := fun b => by
  rcases h b with h1 | ⟨h1, h2⟩ <;> rcases h' b with h3 | ⟨h3, h4⟩
  · exact .inl (h3.trans h1)
  · exact .inr ⟨h1 ▸ h3, h4⟩
  · exact .inr ⟨h1, by rw [h3]; exact h2⟩
  · exact .inr ⟨h1, h4⟩
theorem Looks.guard {ops : Array Oper} {o : Oper} {t : Nat} (h : guardT ops o = some t) : Looks ops o t := .inr h
theorem OR.congr {ρ : Rho} {S S0 : AS} {e : Operand → Value} {x : Operand} (h : OR ρ S e x) (ht : ∀ t, x = .tmp t → S0.t.get (Pa.ofNat t) = S.t.get (Pa.ofNat t)) : OR ρ S0 e x := by
  intro f hf
  have := h f hf
  cases x with
  | tmp t =>
    simp only [opE, forcePa_eq, Option.some.injEq] at hf
    subst hf
    show VR ρ (someV (S0.t.get (Pa.ofNat t))) _
    rw [ht t rfl]
    exact this
  | const v =>
    simp only [opE] at hf
    split at hf
    · simp only [forceAV_eq, Option.some.injEq] at hf; subst hf; exact this
    · simp only [Option.some.injEq] at hf; subst hf; exact this
  | global g => simp only [opE, Option.some.injEq] at hf; subst hf; exact this
  | func g => simp only [opE, Option.some.injEq] at hf; subst hf; exact this
theorem OR.tmp_of {ρ : Rho} {S : AS} {a : Act} {x : Operand} (h : ∀ t, x = .tmp t → VR ρ (someV (S.t.get (Pa.ofNat t))) (a.tmps.getD t undef)) : OR ρ S a.eval x := by
  intro f hf
  cases x with
  | tmp t =>
    simp only [opE, forcePa_eq, Option.some.injEq] at hf
    subst hf
    exact h t rfl
  | const v =>
    simp only [opE] at hf
    split at hf
    · rename_i b hb
      simp only [forceAV_eq, Option.some.injEq] at hf
      subst hf
      exact absV_sound hb
    · simp only [Option.some.injEq] at hf
      subst hf
      trivial
  | global g => simp only [opE, Option.some.injEq] at hf; subst hf; trivial
  | func g => simp only [opE, Option.some.injEq] at hf; subst hf; exact ⟨#[], rfl, rfl⟩

section
variable {nt : Nat} {ops : Array Oper} {l : List Do} {n0 : Nat} {ρs : Rho} {Hs : AH} {ws : World} {ρ : Rho} {H : AH} {w : World} {S : AS} {a : Act} {hist : List Nat} {D : Nat → Prop} {β : Nat → Pa}

/-- Something staged: what it takes. -/
theorem Inv.staged (hR : Reg P nt ops l) (hI : Inv P nt ops l n0 ρs Hs ws ρ H w S a hist D β) {j : Nat} {x : Do} (hx : l[j]? = some x) (hj : j ∉ hist) (hb : ∀ q, has x.b q = true → q ∈ hist) (hfree : j = freeOf l → ∀ i ∈ hist, D i)
    {d : Option Pa} (hd : dstE nt x.o.dst = some d) {v : AV} {H' : AH} {bj : Pa} (hs : Sim P n0 ρs Hs ws ρ H' w) (he : Ext H H') (hnx : H.nx.toNat ≤ H'.nx.toNat) (hfr : ∀ b, b.toNat < H.nx.toNat → H'.get b = H.get b)
    (hp : Pend ops Hs ρ H' ⟨putD d v S.t, S.d⟩ bj x) (hbj : ∀ f, x.F = .alloc f → wantA ops x.o ⟨putD d v S.t, S.d⟩ = some true → H.nx.toNat ≤ bj.toNat) :
    Inv P nt ops l n0 ρs Hs ws ρ H' w ⟨putD d v S.t, S.d⟩ a (j :: hist) D (fun q => if q = j then bj else β q) := by
  have hDj : ¬ D j := fun h => hj (hI.sub j h)
  have dst : ∀ i y t, i ∈ hist → l[i]? = some y → y.o.dst = some t → x.o.dst ≠ some t := fun i y t hi hy ht => hR.once i j y x t (fun e => hj (e ▸ hi)) hy hx ht
  have looks : ∀ i y t, i ∈ hist → ¬ D i → l[i]? = some y → Looks ops y.o t → x.o.dst ≠ some t := fun i y t hi hDi hy hlk ht => by
    rcases hR.behind j i x y t hx hy (fun e => hj (e ▸ hi)) ht hlk with h1 | h1
    · exact hj (hI.hok.ahead i y hi hy j h1)
    · exact hDi (hfree h1 i hi)
  have want : ∀ i y, i ∈ hist → ¬ D i → l[i]? = some y → wantA ops y.o ⟨putD d v S.t, S.d⟩ = wantA ops y.o S := fun i y hi hDi hy => wantA_congr fun t ht => put_other hd (looks i y t hi hDi hy (.inr ht))
  refine ⟨hs, hI.size, hI.marks, fun i h => List.mem_cons_of_mem _ (hI.sub i h), hI.closed, ⟨hj, ⟨x, hx, hb⟩, hI.hok⟩, fun t => ?_, fun i y hi hDi hy => ?_, fun i i' y y' f g hi hi' hDi hDi' hy hy' hf hg hw hw' heq => ?_⟩
  · by_cases ht : x.o.dst = some t
    · exact .inl ⟨j, x, by simp, hDj, hx, ht⟩
    · rcases hI.tr t with ⟨i, y, h1, h2, h3, h4⟩ | h
      · exact .inl ⟨i, y, List.mem_cons_of_mem _ h1, h2, h3, h4⟩
      · right
        show VR ρ (someV ((putD d v S.t).get (Pa.ofNat t))) _
        rw [put_other hd ht]
        exact h
  · by_cases e : i = j
    · subst e
      rw [hx, Option.some.injEq] at hy
      subst hy
      simp only [if_true]
      exact hp
    · simp only [e, if_false]
      have hi : i ∈ hist := by rcases List.mem_cons.1 hi with h | h; exact absurd h e; exact h
      have dv : ∀ u, DstV S y.o u → DstV ⟨putD d v S.t, S.d⟩ y.o u := fun u hu t ht => by
        show (putD d v S.t).get (Pa.ofNat t) = some u
        rw [put_other hd (dst i y t hi hy ht)]
        exact hu t ht
      have lk : ∀ (S0 : AS), (∀ t, Looks ops y.o t → S0.t.get (Pa.ofNat t) = S.t.get (Pa.ofNat t)) → ∀ t, Looks ops y.o t → S0.t.get (Pa.ofNat t) = (putD d v S.t).get (Pa.ofNat t) := fun S0 h t ht => by
        rw [h t ht, put_other hd (looks i y t hi hDi hy ht)]
      cases hI.pend i y hi hDi hy with
      | skip h1 h2 => exact .skip (by rw [want i y hi hDi hy]; exact h1) (dv _ h2)
      | read f S0 H0 u h0 h1 h2 h3 h4 h5 => exact .read f S0 H0 u h0 (by rw [want i y hi hDi hy]; exact h1) (lk S0 h2) (h3.trans he) h4 (dv _ h5)
      | alloc f S0 k z h0 h1 h2 h4 h5 h6 h7 h8 h9 => exact .alloc f S0 k z h0 (by rw [want i y hi hDi hy]; exact h1) (lk S0 h2) h4 (dv _ h5) h6 h7 (by omega) (by rw [hfr _ h8]; exact h9)
  · have old : ∀ i y f, i ∈ hist → ¬ D i → l[i]? = some y → y.F = .alloc f → wantA ops y.o ⟨putD d v S.t, S.d⟩ = some true → (β i).toNat < H.nx.toNat := fun i y f hi hDi hy hf hw => by
      rw [want i y hi hDi hy] at hw
      cases hI.pend i y hi hDi hy with
      | skip h1 h2 => rw [h1] at hw; cases hw
      | read f' S0 H0 u h0 => rw [hf] at h0; cases h0
      | alloc f' S0 k z h0 h1 h2 h4 h5 h6 h7 h8 h9 => exact h8
    by_cases e : i = j <;> by_cases e' : i' = j
    · rw [e, e']
    · exfalso
      subst e
      have hi' : i' ∈ hist := by rcases List.mem_cons.1 hi' with h | h; exact absurd h e'; exact h
      rw [hx, Option.some.injEq] at hy
      subst hy
      simp only [e', if_true, if_false] at heq
      have h1 := hbj f hf hw
      have h2 := old i' y' g hi' hDi' hy' hg hw'
      rw [heq] at h1; omega
    · exfalso
      subst e'
      have hi : i ∈ hist := by rcases List.mem_cons.1 hi with h | h; exact absurd h e; exact h
      rw [hx, Option.some.injEq] at hy'
      subst hy'
      simp only [e, if_true, if_false] at heq
      have h1 := hbj g hg hw'
      have h2 := old i y f hi hDi hy hf hw
      rw [← heq] at h1; omega
    · have hi : i ∈ hist := by rcases List.mem_cons.1 hi with h | h; exact absurd h e; exact h
      have hi' : i' ∈ hist := by rcases List.mem_cons.1 hi' with h | h; exact absurd h e'; exact h
      simp only [e, e', if_false] at heq
      rw [want i y hi hDi hy] at hw
      rw [want i' y' hi' hDi' hy'] at hw'
      exact hI.apart i i' y y' f g hi hi' hDi hDi' hy hy' hf hg hw hw' heq
/-- What does not act is carried out ahead. -/
theorem Inv.stage (hR : Reg P nt ops l) (hI : Inv P nt ops l n0 ρs Hs ws ρ H w S a hist D β) {j : Nat} {x : Do} (hx : l[j]? = some x) (hj : j ∉ hist) (hb : ∀ q, has x.b q = true → q ∈ hist) (hact : x.isAct = false) (hfree : j = freeOf l → ∀ i ∈ hist, D i)
    {s : StepF} (hs : stepD ops.toList nt x = some s) {sub : Sub} {k : AS → AH → Bool} (h : s sub S H k = true) : ∃ S' H' β', k S' H' = true ∧ Inv P nt ops l n0 ρs Hs ws ρ H' w S' a (j :: hist) D β' := by
  obtain ⟨d, hd, hs⟩ := ob_eq_some.1 hs
  obtain ⟨st, hst, hs⟩ := ob_eq_some.1 hs
  have own : ∀ t, Looks ops x.o t → x.o.dst ≠ some t := fun t => hR.own j x t hx
  have want : ∀ v, wantA ops x.o ⟨putD d v S.t, S.d⟩ = wantA ops x.o S := fun v => wantA_congr fun t ht => put_other hd (own t (.inr ht))
  have lk : ∀ v t, Looks ops x.o t → S.t.get (Pa.ofNat t) = (putD d v S.t).get (Pa.ofNat t) := fun v t ht => (put_other hd (own t ht)).symm
  rcases guard_cases hs h with ⟨hw, h1⟩ | ⟨hw, h1⟩
  · have hdo := (hR.op j x hx).2
    cases hF : x.F <;> rw [hF] at hst <;> (obtain rfl := Option.some.inj hst)
    case alloc f =>
      obtain ⟨⟨ak, y⟩, h2, h3⟩ := obB_eq.1 h1
      obtain ⟨hlive, h3⟩ := cnd_isTrue h3
      refine ⟨_, _, _, h3, hI.staged hR hx hj hb hfree hd (bj := H.nx) (hI.sim.promise y) (fun b => ?_) (by rw [AH.nx_new]; omega) (fun b hb => by rw [AH.get_new, if_neg (fun e => by rw [e] at hb; omega)]) (.alloc f S ak y hF (by rw [want]; exact hw) (lk _) h2 (put_same hd) (hI.sim.hr.fresh _ (Nat.le_refl _)) hI.sim.nx (by rw [AH.nx_new]; omega) (by rw [AH.get_new, if_pos rfl])) (fun _ _ _ => Nat.le_refl _)⟩
      rw [AH.get_new]
      by_cases e : b = H.nx
      · right
        rw [if_pos e]
        refine ⟨by rw [e]; exact hI.sim.hr.top _ (Nat.le_refl _), ?_⟩
        intro hdead
        obtain rfl := Option.some.inj hdead
        cases hlive
      · exact .inl (by rw [if_neg e])
    case read f =>
      obtain ⟨v, h2, h3⟩ := obB_eq.1 h1
      exact ⟨_, _, _, h3, hI.staged hR hx hj hb hfree hd (bj := H.nx) hI.sim (Ext.refl H) (Nat.le_refl _) (fun _ _ => rfl) (.read f S H v hF (by rw [want]; exact hw) (lk _) (Ext.refl H) h2 (put_same hd)) (fun _ hf => by rw [hF] at hf; cases hf)⟩
    case fork f => exact absurd hF (hdo.nf f)
    case next f => exact absurd hF (hdo.nn f)
    case act f => simp [Do.isAct, kdOf, hF] at hact
    case call g as => simp [Do.isAct, kdOf, hF] at hact
  · have h2 : k ⟨putD d undefA S.t, S.d⟩ H = true := by rcases h1 with h1 | h1 <;> exact h1
    exact ⟨_, _, _, h2, hI.staged hR hx hj hb hfree hd (bj := H.nx) hI.sim (Ext.refl H) (Nat.le_refl _) (fun _ _ => rfl) (.skip (by rw [want]; exact hw) (put_same hd)) (fun _ _ hw' => by rw [want, hw] at hw'; cases hw')⟩
end
end Go.Ab
