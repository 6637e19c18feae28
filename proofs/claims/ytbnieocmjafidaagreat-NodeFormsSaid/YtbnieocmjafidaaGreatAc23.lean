/- The abstract machine, 23: a step of a region that goes in its order. -/
import Derived.Test.YtbnieocmjafidaaGreatAc22
set_option linter.unusedVariables false
set_option linter.unusedSimpArgs false
namespace Go.Ab
variable {P : Program}

/-- The marks among an activation's deferred calls. -/
def DR (ρ : Rho) : List Pa → List Deferred → Prop
  | [], ds => ds = []
  | p :: ps, ds => ∃ l ds', ρ p = some l ∧ ds = { target := .collected l.c, args := #[] } :: ds' ∧ DR ρ ps ds'
theorem DR.mono {ρ ρ' : Rho} (h : ρ.le ρ') : ∀ {ps : List Pa} {ds : List Deferred}, DR ρ ps ds → DR ρ' ps ds
  | [], _, hd => hd
  | p :: ps, ds, ⟨l, ds', h1, h2, h3⟩ => ⟨l, ds', h _ _ h1, h2, h3.mono h⟩
/-- The activation is one for which the abstract one stands. -/
def AR (ρ : Rho) (n : Nat) (S : AS) (a : Act) : Prop := TR ρ S.t n a.tmps ∧ DR ρ S.d a.defers
theorem AR.mono {ρ ρ' : Rho} (h : ρ.le ρ') {n : Nat} {S : AS} {a : Act} (ha : AR ρ n S a) : AR ρ' n S a := ⟨ha.1.mono h, ha.2.mono h⟩
theorem ofNat_eq_iff {m n : Nat} : Pa.ofNat m = Pa.ofNat n ↔ m = n := ⟨Pa.ofNat_inj, fun h => h ▸ rfl⟩
theorem TR.put {ρ : Rho} {T : PT AV} {n : Nat} {tmps : Array Value} (h : TR ρ T n tmps) {d : Nat} (hd : d < n) {v : AV} {v' : Value} (hv : VR ρ v v') : TR ρ (T.put (Pa.ofNat d) v) n (tmps.setIfInBounds d v') := by
  refine ⟨by simp [h.1], fun t => ?_⟩
  rw [PT.get_put]
  by_cases e : t = d
  · subst e
    have : t < tmps.size := by rw [h.1]; exact hd
    simp [Array.getD, this]
    exact hv
  · rw [if_neg (fun h => e (Pa.ofNat_inj h))]
    have := h.2 t
    have e2 : (tmps.setIfInBounds d v').getD t undef = tmps.getD t undef := by
      simp [Array.getD_eq_getD_getElem?, Array.getElem?_setIfInBounds_ne (Ne.symm e)]
    rw [e2]
    exact this
theorem dstE_some {n : Nat} {d : Option Tmp} {q : Option Pa} (h : dstE n d = some q) : (d = none ∧ q = none) ∨ ∃ t, d = some t ∧ t < n ∧ q = some (Pa.ofNat t) := by
  cases d with
  | none => obtain rfl := Option.some.inj h; exact .inl ⟨rfl, rfl⟩
  | some t =>
    obtain ⟨h1, h⟩ := cond_some h
    rw [forcePa_eq] at h
    obtain rfl := Option.some.inj h
    rw [nblt, decide_eq_true_eq] at h1
    exact .inr ⟨t, rfl, h1, rfl⟩
theorem AR.put {ρ : Rho} {n : Nat} {S : AS} {a : Act} (h : AR ρ n S a) {d : Option Tmp} {q : Option Pa} (hd : dstE n d = some q) {v : AV} {v' : Value} (hv : VR ρ v v') : AR ρ n ⟨putD q v S.t, S.d⟩ (a.put d v') := by
  rcases dstE_some hd with ⟨rfl, rfl⟩ | ⟨t, rfl, ht, rfl⟩
  · exact h
  · exact ⟨h.1.put ht hv, h.2⟩
theorem putK_eq (d : Option Pa) (v : AV) (S : AS) (H : AH) (k : AS → AH → Bool) : putK d v S H k = k ⟨putD d v S.t, S.d⟩ H := rfl

/-- Whatever the abstract machine goes on with, the concrete one may go on with too. -/
def Good (P : Program) (n0 : Nat) (ρ : Rho) (H : AH) (w : World) (nt : Nat) (k : AS → AH → Bool) (K : Act → World → Prop) : Prop :=
  ∀ S' H' ρ' a' w', k S' H' = true → AR ρ' nt S' a' → Sim P n0 ρ H w ρ' H' w' → K a' w'
theorem Good.trans {n0 : Nat} {ρ : Rho} {H : AH} {w : World} {nt : Nat} {k : AS → AH → Bool} {K : Act → World → Prop} (h : Good P n0 ρ H w nt k K) {ρ' : Rho} {H' : AH} {w' : World} (hs : Sim P n0 ρ H w ρ' H' w') : Good P n0 ρ' H' w' nt k K :=
  fun S'' H'' ρ'' a'' w'' hk ha hs' => h _ _ _ _ _ hk ha (hs.trans hs')

theorem undef_VR (ρ : Rho) : VR ρ undefA undef := ⟨#[], rfl, rfl⟩
theorem stepCall_sound {ent : FuncId → EK} {sub : Sub} (hsub : SubOk P ent sub) {F : Fence} (hF : WF F) {n : Nat} {o : Oper} {g : Opd} {args : List Opd} (ho : CallS o g args) {n0 : Nat} {ρ : Rho} {H : AH} {w : World} (hr : HR P n0 ρ H w) (hn : n0 ≤ w.heap.size) {S : AS} {a : Act} (hop : ∀ x ∈ o.op.operands.toList, OR ρ S a.eval x)
    {k : AV → AH → Bool} {K : Act → World → Prop} {Q : Exit → Act → World → Prop}
    (h : (match g S with
      | .func f cap => sub.call f (catL (mapL (fun x => x S) args) cap) H k
      | .yield l => sub.round l (mapL (fun x => x S) args) H k
      | _ => false) = true)
    (hk : ∀ v H' ρ' w' v', k v H' = true → VR ρ' v v' → Sim P n0 ρ H w ρ' H' w' → K (a.put o.dst v') w') : o.wpIn F n P a w K Q := by
  obtain ⟨c, f, hc, hcal, hf, has⟩ := ho
  obtain ⟨dst, op, ty, pos, after, guard⟩ := o
  simp only at hc
  subst hc
  have hops : ∀ x ∈ c.operands.toList, OR ρ S a.eval x := hop
  have hfo := hops f (by simp [Call.operands, hcal]) g hf
  have hargs := opL_all has fun x hx => hops x (by simp [Call.operands]; exact .inr (by simpa using hx))
  have hres : ∀ (fn : Fn) (cap : Array Value), a.eval f = .func fn #[] cap → (resolve a.eval c ty).run P w = .ok { target := .fn fn cap, args := c.args.map a.eval } w := fun fn cap he => by
    unfold resolve
    rw [hcal]
    simp only [he, Deferred.ofValue]
    simp
  split at h
  · rename_i f' cap hG
    rw [hG] at hfo
    obtain ⟨cvs, he, hcv⟩ := hfo
    have hrun : (execOp a.eval ⟨dst, .call c, ty, pos, after, guard⟩).run P w = (callFunc f' (c.args.map a.eval ++ cvs)).run P w := by
      simp only [execOp, Sem.run_bind, hres _ _ he, Result.andThen, invoke]
    have hall : VRs ρ (catL (mapL (fun x => x S) args) cap) (c.args.map a.eval ++ cvs).toList := by
      rw [catL_eq, mapL_eq]
      simp only [Array.toList_append, Array.toList_map]
      exact VRs_append hargs hcv
    obtain ⟨hgo, _⟩ := hsub.call n0 ρ H w f' _ _ k (fun v' w' => K (a.put dst v') w') hr hn hall h hk
    rcases hgo with ⟨h1, h2⟩ | ⟨v, w', h1, h2⟩
    · refine ⟨fun q _ => hF.fn q, ?_⟩
      rw [semAt_of (hrun.trans h1) (by simp), hrun, h1, Oper.uponIn_enter]
      refine ⟨(fun hd => by rw [hF.depth] at hd; cases hd), callsIn_F hF (h2 _ _ fun v w' hv => hv)⟩
    · exact wpIn_value hF (hrun.trans h1) h2
  · rename_i l hG
    rw [hG] at hfo
    obtain ⟨lc, hl, he⟩ := hfo
    have hrun : (execOp a.eval ⟨dst, .call c, ty, pos, after, guard⟩).run P w = (Instr.yield lc.c (c.args.map a.eval)).run P w := by
      simp only [execOp, Sem.run_bind, hres _ _ he, Result.andThen, invoke]
    have hall : VRs ρ (mapL (fun x => x S) args) (c.args.map a.eval).toList := by
      rw [mapL_eq]
      simp only [Array.toList_map]
      exact hargs
    obtain ⟨r, h1, h2, h3⟩ := hsub.round n0 ρ H w l lc _ _ k (fun v' w' => K (a.put dst v') w') hr hn hl hall h hk
    have hy := run_yield (P := P) h1 h2
    refine ⟨fun q _ => hF.fn q, ?_⟩
    rw [semAt_of (hrun.trans hy) (by simp), hrun, hy, Oper.uponIn_round]
    refine ⟨(fun hd => by rw [hF.depth] at hd; cases hd), roundIn_F hF (h3 _ _ fun v w' hv => hv)⟩
  · cases h

/-- One operation that is wanted, in its order. -/
theorem step_sound {ent : FuncId → EK} {sub : Sub} (hsub : SubOk P ent sub) {F : Fence} (hF : WF F) {n : Nat} {o : Oper} {Fo : OF} (ho : OFS P o Fo) {nt : Nat} {d : Option Pa} (hd : dstE nt o.dst = some d) {s : StepF} (hs : stepOf Fo d = some s)
    {n0 : Nat} {ρ : Rho} {H : AH} {w : World} (hr : HR P n0 ρ H w) (hn : n0 ≤ w.heap.size) {S : AS} {a : Act} (ha : AR ρ nt S a) {k : AS → AH → Bool} {K : Act → World → Prop} {Q : Exit → Act → World → Prop} (h : s sub S H k = true) (hg : Good P n0 ρ H w nt k K) : o.wpIn F n P a w K Q := by
  have hops : ∀ x ∈ o.op.operands.toList, OR ρ S a.eval x := fun x _ => OR.of_TR ha.1 x
  have fin : ∀ {v H' ρ' w' v'}, k ⟨putD d v S.t, S.d⟩ H' = true → VR ρ' v v' → Sim P n0 ρ H w ρ' H' w' → K (a.put o.dst v') w' := fun {v H' ρ' w' v'} h1 h2 h3 => hg _ _ _ _ _ h1 ((ha.mono h3.le).put hd h2) h3
  cases Fo <;> (obtain rfl := Option.some.inj hs)
  case alloc f =>
    obtain ⟨⟨ak, x⟩, h1, h2⟩ := obB_eq.1 h
    obtain ⟨_, h2⟩ := cnd_isTrue h2
    obtain ⟨v', o', m, h3, h4, h5⟩ := ho ρ w S a.eval ak x hops h1
    have hs := Sim.lay hr hn h4
    exact wpIn_value hF h3 (fin h2 (h5 _ _ (by simp [Rho.add])) hs)
  case read f =>
    obtain ⟨v, h1, h2⟩ := obB_eq.1 h
    obtain ⟨v', h3, h4⟩ := ho n0 ρ H w S a.eval v hr.toHQ hops h1
    exact wpIn_value hF h3 (fin h2 h4 (Sim.refl hr))
  case fork f =>
    obtain ⟨vs, h1, h2⟩ := obB_eq.1 h
    obtain ⟨v, v', h0, h3, h4⟩ := ho n0 ρ H w S a.eval vs hr.toHQ hops h1
    rw [allL_eq] at h2
    exact wpIn_value hF h3 (fin (List.all_eq_true.1 h2 v h0) h4 (Sim.refl hr))
  case act f =>
    obtain ⟨⟨v, H'⟩, h1, h2⟩ := obB_eq.1 h
    exact wpIn_act hF (ho n0 ρ H H' w S a.eval v hr hn hops h1) fun v' w' ρ' h3 h4 => fin h2 h4 h3
  case next f =>
    obtain ⟨ps, h1, h2⟩ := obB_eq.1 h
    obtain ⟨p, h0, h3⟩ := ho n0 ρ H w S a.eval ps hr hn hops h1
    rw [allL_eq] at h2
    exact wpIn_act hF h3 fun v' w' ρ' h4 h5 => fin (List.all_eq_true.1 h2 p h0) h5 h4
  case call g args =>
    have h : (match g S with
      | .func f cap => sub.call f (catL (mapL (fun x => x S) args) cap) H fun v H => putK d v S H k
      | .yield l => sub.round l (mapL (fun x => x S) args) H fun v H => putK d v S H k
      | _ => false) = true := h
    exact stepCall_sound hsub hF ho hr hn hops h fun v H' ρ' w' v' h1 h2 h3 => fin h1 h2 h3

/-! ### Guards -/
theorem dstAt_eq (ops : Array Oper) (j : Nat) : dstAt ops.toList j = (ops[j]?).bind (·.dst) := by
  unfold dstAt
  rw [nthL_eq]
  have : ops.toList[j]? = ops[j]? := by simp
  rw [this]
  cases ops[j]? <;> rfl
theorem yielded_eq {ops : Array Oper} {tmps : Array Value} {j t : Nat} (h : (ops[j]?).bind (·.dst) = some t) (ht : t < tmps.size) : yielded ops tmps j = match tmps.getD t undef with | .bool b => some b | _ => none := by
  unfold yielded
  rw [h]
  simp only [Option.bind_some]
  have : tmps[t]? = some tmps[t] := Array.getElem?_eq_getElem ht
  rw [this]
  have e : tmps.getD t undef = tmps[t] := by simp [Array.getD, ht]
  rw [e]
  generalize tmps[t] = u
  cases u <;> rfl
theorem yielded_out {ops : Array Oper} {tmps : Array Value} {j t : Nat} (h : (ops[j]?).bind (·.dst) = some t) (ht : ¬ t < tmps.size) : yielded ops tmps j = none := by
  unfold yielded
  rw [h]
  simp only [Option.bind_some]
  rw [Array.getElem?_eq_none (by omega)]
/-- Whether an operation is wanted: what the abstract machine says of it. -/
theorem guard_sound {ops : Array Oper} {o : Oper} {s un : StepF} {d : Option Pa} {q : StepF} (hq : guarded ops.toList o.guard s un d = some q) {sub : Sub} {S : AS} {H : AH} {k : AS → AH → Bool} (h : q sub S H k = true) {ρ : Rho} {tmps : Array Value}
    (ht : ∀ j t, o.guard.isSome = true → (o.guard.map (·.1)) = some j → (ops[j]?).bind (·.dst) = some t → VR ρ (someV (S.t.get (Pa.ofNat t))) (tmps.getD t undef)) :
    (Region.wanted o (yielded ops tmps) = true ∧ s sub S H k = true) ∨ (Region.wanted o (yielded ops tmps) = false ∧ (un sub S H k = true ∨ putK d undefA S H k = true)) := by
  unfold guarded at hq
  cases hg : o.guard with
  | none =>
    rw [hg] at hq
    obtain rfl := Option.some.inj hq
    exact .inl ⟨by simp [Region.wanted, hg], h⟩
  | some jw =>
    obtain ⟨j, want⟩ := jw
    rw [hg] at hq ht
    simp only at hq
    rw [dstAt_eq] at hq
    cases hj : (ops[j]?).bind (·.dst) with
    | none =>
      rw [hj] at hq
      obtain rfl := Option.some.inj hq
      refine .inr ⟨?_, .inl h⟩
      simp [Region.wanted, hg, yielded, hj]
    | some t =>
      rw [hj] at hq
      simp only [forcePa_eq] at hq
      have hq' : some (stepIf (Pa.ofNat t) want s d) = some q := by cases want <;> exact hq
      obtain rfl := Option.some.inj hq'
      obtain ⟨v, hv, h⟩ := obB_eq.1 h
      have hrel := ht j t rfl rfl hj
      rw [hv] at hrel
      have hrel : VR ρ v (tmps.getD t undef) := hrel
      have hw : Region.wanted o (yielded ops tmps) = (yielded ops tmps j == some want) := by simp [Region.wanted, hg]
      rw [hw]
      cases v with
      | bool b =>
        have hval : tmps.getD t undef = .bool b := hrel
        have hlt : t < tmps.size := by
          by_cases hlt : t < tmps.size
          · exact hlt
          · simp [Array.getD, hlt, undef] at hval
        rw [yielded_eq hj hlt, hval]
        have h : cnd (beqB b want) (s sub S H k) (putK d undefA S H k) = true := h
        rw [beqB_eq] at h
        cases hb : (b == want) with
        | true =>
          rw [hb] at h
          left
          exact ⟨by simpa using hb, h⟩
        | false =>
          rw [hb] at h
          right
          exact ⟨by simpa using hb, .inr h⟩
      | tuple vs =>
        obtain ⟨us, hval, _⟩ := hrel
        right
        refine ⟨?_, .inr h⟩
        by_cases hlt : t < tmps.size
        · rw [yielded_eq hj hlt, hval]; rfl
        · rw [yielded_out hj hlt]; rfl
      | _ => cases h
end Go.Ab
