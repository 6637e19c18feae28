/- The abstract machine, 30: a region that draws its order: whatever is listed next. -/
import Derived.Test.YtbnieocmjafidaaGreatAc29
set_option linter.unusedVariables false
set_option linter.unusedSimpArgs false
namespace Go.Ab
variable {P : Program}

section
variable {nt : Nat} {ops : Array Oper} {l : List Do} {n0 : Nat} {ρs : Rho} {Hs : AH} {ws : World} {ρ : Rho} {H : AH} {w : World} {S : AS} {a : Act} {hist : List Nat} {D : Nat → Prop} {β : Nat → Pa}

/-- What an operation that may come up looks at stands as the abstract machine has it. -/
theorem Inv.looks (hR : Reg P nt ops l) (hI : Inv P nt ops l n0 ρs Hs ws ρ H w S a hist D β) {i : Nat} {x : Do} (hx : l[i]? = some x) (hb : ∀ q, has x.b q = true → D q) (hfree : ∀ q, q = freeOf l → q ∈ hist → D q ∨ q = i) {t : Nat} (ht : Looks ops x.o t) :
    VR ρ (someV (S.t.get (Pa.ofNat t))) (a.tmps.getD t undef) := by
  rcases hI.tr t with ⟨j, y, h1, h2, h3, h4⟩ | h
  · exfalso
    by_cases e : j = i
    · subst e
      rw [hx, Option.some.injEq] at h3
      subst h3
      exact hR.own j x t hx ht h4
    · rcases hR.behind j i y x t h3 hx e h4 ht with h5 | h5
      · exact h2 (hb j h5)
      · rcases hfree j h5 h1 with h6 | h6
        · exact h2 h6
        · exact e h6
  · exact h
theorem size_put {a : Act} {d : Option Tmp} {v : Value} : (a.put d v).tmps.size = a.tmps.size := by
  cases d <;> simp [Act.put]
theorem put_get {a : Act} {d : Option Tmp} {v : Value} {t : Nat} (h : d ≠ some t) : (a.put d v).tmps.getD t undef = a.tmps.getD t undef := by
  cases d with
  | none => rfl
  | some u =>
    have hne : u ≠ t := fun e => h (by rw [e])
    simp [Act.put, Array.getD_eq_getD_getElem?, Array.getElem?_setIfInBounds_ne hne]
theorem put_here {a : Act} {d : Option Tmp} {v : Value} {t nt : Nat} (h : d = some t) (hs : a.tmps.size = nt) {q : Option Pa} (hd : dstE nt d = some q) : (a.put d v).tmps.getD t undef = v := by
  rcases dstE_some hd with ⟨h1, _⟩ | ⟨u, h1, h2, _⟩
  · rw [h] at h1; cases h1
  · have e : t = u := by rw [h] at h1; exact Option.some.inj h1
    subst e
    have : t < a.tmps.size := by rw [hs]; exact h2
    rw [h]
    simp [Act.put, Array.getD, this]
theorem defers_put {a : Act} {d : Option Tmp} {v : Value} : (a.put d v).defers = a.defers := by cases d <;> rfl

/-- What was carried out ahead comes up. -/
theorem Inv.exec (hR : Reg P nt ops l) (hI : Inv P nt ops l n0 ρs Hs ws ρ H w S a hist D β) (hn : n0 ≤ ws.heap.size) {i : Nat} {x : Do} (hx : l[i]? = some x) (hi : i ∈ hist) (hD : ¬ D i) (hb : ∀ q, has x.b q = true → D q) (hfree : ∀ q, q = freeOf l → q ∈ hist → D q ∨ q = i)
    {F : Fence} (hF : WF F) {n : Nat} {K : Act → World → Prop} {Q : Exit → Act → World → Prop} (hK : ∀ ρ' w' a', Inv P nt ops l n0 ρs Hs ws ρ' H w' S a' hist (fun q => D q ∨ q = i) β → K a' w') : wpOpIn F n P ops Q i K a w := by
  have hdo := (hR.op i x hx).2
  obtain ⟨d, hd⟩ := hdo.d
  have lk : ∀ t, Looks ops x.o t → VR ρ (someV (S.t.get (Pa.ofNat t))) (a.tmps.getD t undef) := fun t ht => hI.looks hR hx hb hfree ht
  -- what comes of it
  have fin : ∀ (v : AV) (v' : Value) (ρ' : Rho) (w' : World), DstV S x.o v → VR ρ' v v' → Sim P n0 ρs Hs ws ρ' H w' → ρ.le ρ' → (∀ j, j ∈ hist → ¬ D j → j ≠ i → ∀ y f, l[j]? = some y → y.F = .alloc f → wantA ops y.o S = some true → ρ' (β j) = none) →
      Inv P nt ops l n0 ρs Hs ws ρ' H w' S (a.put x.o.dst v') hist (fun q => D q ∨ q = i) β := fun v v' ρ' w' h1 h2 h3 h4 h5 => by
    refine ⟨h3, by rw [size_put]; exact hI.size, by rw [defers_put]; exact hI.marks.mono h4, fun j hj => hj.elim (hI.sub j) (fun e => e ▸ hi), fun j y hj hy q hq => ?_, hI.hok, fun t => ?_, fun j y hj hDj hy => ?_, fun i1 i2 x1 x2 f g m1 m2 d1 d2 => hI.apart i1 i2 x1 x2 f g m1 m2 (fun h => d1 (.inl h)) (fun h => d2 (.inl h))⟩
    · rcases hj with hj | rfl
      · exact .inl (hI.closed j y hj hy q hq)
      · rw [hx, Option.some.injEq] at hy; subst hy; exact .inl (hb q hq)
    · by_cases ht : x.o.dst = some t
      · right
        rw [put_here ht hI.size hd, h1 t ht]
        exact h2
      · rcases hI.tr t with ⟨j, y, g1, g2, g3, g4⟩ | h
        · refine .inl ⟨j, y, g1, fun h => ?_, g3, g4⟩
          rcases h with h | rfl
          · exact g2 h
          · rw [hx, Option.some.injEq] at g3; subst g3; exact ht g4
        · right
          rw [put_get ht]
          exact VR.mono h4 _ _ h
    · have hji : j ≠ i := fun e => hDj (.inr e)
      have hDj' : ¬ D j := fun h => hDj (.inl h)
      cases hI.pend j y hj hDj' hy with
      | skip g1 g2 => exact .skip g1 g2
      | read f S0 H0 u g0 g1 g2 g3 g4 g5 => exact .read f S0 H0 u g0 g1 g2 g3 g4 g5
      | alloc f S0 k z g0 g1 g2 g4 g5 g6 g7 g8 g9 => exact .alloc f S0 k z g0 g1 g2 g4 g5 (h5 j hj hDj' hji y f hy g0 g1) g7 g8 g9
  have keepρ : ∀ j, j ∈ hist → ¬ D j → j ≠ i → ∀ y f, l[j]? = some y → y.F = .alloc f → wantA ops y.o S = some true → ρ (β j) = none := fun j hj hDj _ y f hy hf hw => by
    cases hI.pend j y hj hDj hy with
    | skip h1 h2 => rw [h1] at hw; cases hw
    | read f' S0 H0 u h0 => rw [hf] at h0; cases h0
    | alloc f' S0 k z h0 h1 h2 h4 h5 h6 => exact h6
  have hg : ∀ t, guardT ops x.o = some t → VR ρ (someV (S.t.get (Pa.ofNat t))) (a.tmps.getD t undef) := fun t ht => lk t (.inr ht)
  unfold wpOpIn
  rw [(hR.op i x hx).1]
  simp only
  cases hI.pend i x hi hD hx with
  | skip h1 h2 =>
    rw [if_neg (by rw [wantA_sound h1 hg]; simp)]
    exact ⟨fun f _ => hF.fn f, hK _ _ _ (fin undefA undef ρ w h2 (undef_VR ρ) hI.sim (Rho.le_refl _) keepρ)⟩
  | read f S0 H0 v h0 h1 h2 h3 h4 h5 =>
    rw [if_pos (wantA_sound h1 hg)]
    have hS := hdo.F
    rw [h0] at hS
    obtain ⟨v', g1, g2⟩ := hS n0 ρ H0 w S0 a.eval v (hI.sim.hr.toHQ.ext h3) (fun y hy => (OR.tmp_of (S := S) fun t ht => lk t (.inl (ht ▸ hy))).congr fun t ht => h2 t (.inl (ht ▸ hy))) h4
    exact wpIn_value hF g1 (hK _ _ _ (fin v v' ρ w h5 g2 hI.sim (Rho.le_refl _) keepρ))
  | alloc f S0 k y h0 h1 h2 h4 h5 h6 h7 h8 h9 =>
    rw [if_pos (wantA_sound h1 hg)]
    have hS := hdo.F
    rw [h0] at hS
    obtain ⟨v', o', m, g1, g2, g3⟩ := hS ρ w S0 a.eval k y (fun y hy => (OR.tmp_of (S := S) fun t ht => lk t (.inl (ht ▸ hy))).congr fun t ht => h2 t (.inl (ht ▸ hy))) h4
    have hsim := hI.sim.keep hn h6 h7 h8 h9 g2
    refine wpIn_value hF g1 (hK _ _ _ (fin (k.at (β i)) v' _ _ h5 (g3 _ _ (by simp [Rho.add])) hsim (Rho.le_add h6) fun j hj hDj hji y' f' hy' hf' hw' => ?_))
    have hne : β j ≠ β i := fun e => hji (hI.apart j i y' x f' f hj hi hDj hD hy' hx hf' h0 hw' h1 e)
    simp only [Rho.add, hne, if_false]
    exact keepρ j hj hDj hji y' f' hy' hf' hw'

/-- An act comes up, in the abstract and in the concrete machine at once. -/
theorem Inv.act {ent : FuncId → EK} {sub : Sub} (hsub : SubOk P ent sub) (hR : Reg P nt ops l) (hI : Inv P nt ops l n0 ρs Hs ws ρ H w S a hist D β) (hn : n0 ≤ ws.heap.size) {i : Nat} {x : Do} (hx : l[i]? = some x) (hi : i ∉ hist) (hact : x.isAct = true) (hb : ∀ q, has x.b q = true → D q) (hfree : ∀ q, q = freeOf l → q ∈ hist → D q) (hfree2 : i = freeOf l → ∀ q ∈ hist, D q)
    {s : StepF} (hs : stepD ops.toList nt x = some s) {k k2 : AS → AH → Bool} (h : s sub S H k = true)
    (hk : ∀ S' H', k S' H' = true → k2 S' H' = true ∧ ∀ j y f, j ∈ hist → ¬ D j → l[j]? = some y → y.F = .read f → wantA ops y.o S' = some true → ∃ v, f S' H' = some v ∧ DstV S' y.o v)
    {F : Fence} (hF : WF F) {n : Nat} {K : Act → World → Prop} {Q : Exit → Act → World → Prop} (hK : ∀ ρ' S' H' w' a', k2 S' H' = true → Inv P nt ops l n0 ρs Hs ws ρ' H' w' S' a' (i :: hist) (fun q => D q ∨ q = i) β → K a' w') : wpOpIn F n P ops Q i K a w := by
  have hdo := (hR.op i x hx).2
  obtain ⟨d, hd, hs⟩ := ob_eq_some.1 hs
  obtain ⟨st, hst, hs⟩ := ob_eq_some.1 hs
  have lk : ∀ t, Looks ops x.o t → VR ρ (someV (S.t.get (Pa.ofNat t))) (a.tmps.getD t undef) := fun t ht => hI.looks hR hx hb (fun q h1 h2 => .inl (hfree q h1 h2)) ht
  have hg : ∀ t, guardT ops x.o = some t → VR ρ (someV (S.t.get (Pa.ofNat t))) (a.tmps.getD t undef) := fun t ht => lk t (.inr ht)
  have hops : ∀ y ∈ x.o.op.operands.toList, OR ρ S a.eval y := fun y hy => OR.tmp_of fun t ht => lk t (.inl (ht ▸ hy))
  have hnw : n0 ≤ w.heap.size := Nat.le_trans hn hI.sim.size
  have fin : ∀ (v : AV) (v' : Value) (ρ' : Rho) (H' : AH) (w' : World), k ⟨putD d v S.t, S.d⟩ H' = true → VR ρ' v v' → Sim P n0 ρ H w ρ' H' w' → K (a.put x.o.dst v') w' := fun v v' ρ' H' w' h1 h2 h3 => by
    obtain ⟨h4, hag⟩ := hk _ _ h1
    refine hK ρ' _ H' w' _ h4 ?_
    have dst : ∀ j y t, j ∈ hist → l[j]? = some y → y.o.dst = some t → x.o.dst ≠ some t := fun j y t hj hy ht => hR.once j i y x t (fun e => hi (e ▸ hj)) hy hx ht
    have looks : ∀ j y t, j ∈ hist → ¬ D j → l[j]? = some y → Looks ops y.o t → x.o.dst ≠ some t := fun j y t hj hDj hy hlk ht => by
      rcases hR.behind i j x y t hx hy (fun e => hi (e ▸ hj)) ht hlk with h1 | h1
      · exact hi (hI.hok.ahead j y hj hy i h1)
      · exact hDj (hfree2 h1 j hj)
    have want : ∀ j y, j ∈ hist → ¬ D j → l[j]? = some y → wantA ops y.o ⟨putD d v S.t, S.d⟩ = wantA ops y.o S := fun j y hj hDj hy => wantA_congr fun t ht => put_other hd (looks j y t hj hDj hy (.inr ht))
    have split : ∀ {j}, j ∈ i :: hist → ¬ (D j ∨ j = i) → j ∈ hist ∧ ¬ D j := fun {j} h1 h2 => ⟨by rcases List.mem_cons.1 h1 with h | h; exact absurd (.inr h) h2; exact h, fun h => h2 (.inl h)⟩
    refine ⟨hI.sim.trans h3, by rw [size_put]; exact hI.size, by rw [defers_put]; exact hI.marks.mono h3.le, fun j hj => ?_, fun j y hj hy q hq => ?_, ⟨hi, ⟨x, hx, fun q hq => hI.sub q (hb q hq)⟩, hI.hok⟩, fun t => ?_, fun j y hj hDj hy => ?_, fun i1 i2 x1 x2 f g m1 m2 d1 d2 y1 y2 f1 f2 w1 w2 heq => ?_⟩
    · rcases hj with hj | rfl
      · exact List.mem_cons_of_mem _ (hI.sub j hj)
      · exact List.mem_cons_self
    · rcases hj with hj | rfl
      · exact .inl (hI.closed j y hj hy q hq)
      · rw [hx, Option.some.injEq] at hy; subst hy; exact .inl (hb q hq)
    · by_cases ht : x.o.dst = some t
      · right
        rw [put_here ht hI.size hd]
        have := put_same hd (v := v) (S := S) t ht
        rw [this]
        exact h2
      · rcases hI.tr t with ⟨j, y, g1, g2, g3, g4⟩ | h
        · refine .inl ⟨j, y, List.mem_cons_of_mem _ g1, fun h => ?_, g3, g4⟩
          rcases h with h | rfl
          · exact g2 h
          · exact hi g1
        · right
          rw [put_get ht]
          show VR ρ' (someV ((putD d v S.t).get (Pa.ofNat t))) _
          rw [put_other hd ht]
          exact VR.mono h3.le _ _ h
    · obtain ⟨hj, hDj⟩ := split hj hDj
      have dv : ∀ u, DstV S y.o u → DstV ⟨putD d v S.t, S.d⟩ y.o u := fun u hu t ht => by
        show (putD d v S.t).get (Pa.ofNat t) = some u
        rw [put_other hd (dst j y t hj hy ht)]
        exact hu t ht
      cases hI.pend j y hj hDj hy with
      | skip g1 g2 => exact .skip (by rw [want j y hj hDj hy]; exact g1) (dv _ g2)
      | read f S0 H0 u g0 g1 g2 g3 g4 g5 =>
        have hw : wantA ops y.o ⟨putD d v S.t, S.d⟩ = some true := by rw [want j y hj hDj hy]; exact g1
        obtain ⟨u', q1, q2⟩ := hag j y f hj hDj hy g0 hw
        exact .read f _ H' u' g0 hw (fun _ _ => rfl) (Ext.refl H') q1 q2
      | alloc f S0 k' z g0 g1 g2 g4 g5 g6 g7 g8 g9 =>
        obtain ⟨q1, q2⟩ := h3.old _ g8 g6
        refine .alloc f S0 k' z g0 (by rw [want j y hj hDj hy]; exact g1) (fun t ht => ?_) g4 (dv _ g5) q1 g7 (Nat.lt_of_lt_of_le g8 h3.nx) (by rw [q2]; exact g9)
        rw [g2 t ht]
        exact (put_other hd (looks j y t hj hDj hy ht)).symm
    · obtain ⟨m1, d1⟩ := split m1 d1
      obtain ⟨m2, d2⟩ := split m2 d2
      rw [want i1 x1 m1 d1 y1] at w1
      rw [want i2 x2 m2 d2 y2] at w2
      exact hI.apart i1 i2 x1 x2 f g m1 m2 d1 d2 y1 y2 f1 f2 w1 w2 heq
  unfold wpOpIn
  rw [(hR.op i x hx).1]
  simp only
  rcases guard_cases hs h with ⟨hw, h1⟩ | ⟨hw, h1⟩
  · rw [if_pos (wantA_sound hw hg)]
    have hS := hdo.F
    cases hFF : x.F <;> rw [hFF] at hst hS <;> (obtain rfl := Option.some.inj hst)
    case alloc f => simp [Do.isAct, kdOf, hFF] at hact
    case read f => simp [Do.isAct, kdOf, hFF] at hact
    case fork f => exact absurd hFF (hdo.nf f)
    case next f => exact absurd hFF (hdo.nn f)
    case act f =>
      obtain ⟨⟨v, H'⟩, h2, h3⟩ := obB_eq.1 h1
      exact wpIn_act hF (hS n0 ρ H H' w S a.eval v hI.sim.hr hnw hops h2) fun v' w' ρ' h4 h5 => fin v v' ρ' H' w' h3 h5 h4
    case call g args =>
      have h1 : (match g S with
        | .func f cap => sub.call f (catL (mapL (fun x => x S) args) cap) H fun v H => putK d v S H k
        | .yield l => sub.round l (mapL (fun x => x S) args) H fun v H => putK d v S H k
        | _ => false) = true := h1
      exact stepCall_sound hsub hF hS hI.sim.hr hnw hops h1 fun v H' ρ' w' v' h2 h3 h4 => fin v v' ρ' H' w' h2 h3 h4
  · rw [if_neg (by rw [wantA_sound hw hg]; simp)]
    refine ⟨fun f _ => hF.fn f, ?_⟩
    have h2 : k ⟨putD d undefA S.t, S.d⟩ H = true := by rcases h1 with h1 | h1 <;> exact h1
    exact fin undefA undef ρ H w h2 (undef_VR ρ) (Sim.refl hI.sim.hr)
end
end Go.Ab
