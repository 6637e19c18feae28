/- The abstract machine, 22: one operation, wherever it stands. -/
import Derived.Test.YtbnieocmjafidaaGreatAc21
set_option linter.unusedVariables false
set_option linter.unusedSimpArgs false
namespace Go.Ab
variable {P : Program}

/-- A fence that shuts nothing out. -/
structure WF (F : Fence) : Prop where
  fn : ∀ f, F.fn f
  depth : F.depth = none
  alive : F.alive = false
theorem WF.room {F : Fence} (h : WF F) (n : Nat) : F.room n := fun d hd => by rw [h.depth] at hd; cases hd
theorem WF.wide : WF Fence.wide := ⟨fun _ => trivial, rfl, rfl⟩
theorem WF.inRound {F : Fence} (h : WF F) (l : Nat) : WF (F.inRound l) := ⟨h.fn, h.depth, h.alive⟩

theorem semAt_of {o : Oper} {e : Operand → Value} {w w' : World} {x : Next} (h : (execOp e o).run P w = .ok x w') (hx : ∀ d, x ≠ .defer d) (ro : Option Nat) : Oper.semAt ro e o = execOp e o := by
  refine Oper.semAt_eq ro e o fun c hc => ?_
  obtain ⟨dst, op, ty, pos, after, guard⟩ := o
  simp only at hc
  subst hc
  simp only [execOp, Sem.run_bind] at h
  cases hr : (resolve e c ty).run P w with
  | ok d w1 =>
    rw [hr] at h
    simp only [Result.andThen, Sem.run_pure] at h
    exact hx _ (Result.ok.inj h).1.symm
  | halt q w1 =>
    rw [hr] at h
    cases h
theorem wpIn_value {F : Fence} (hF : WF F) {n : Nat} {o : Oper} {a : Act} {w w' : World} {K : Act → World → Prop} {Q : Exit → Act → World → Prop} {v : Value} (h : (execOp a.eval o).run P w = .ok (.value v) w') (hK : K (a.put o.dst v) w') : o.wpIn F n P a w K Q := by
  refine ⟨fun f _ => hF.fn f, ?_⟩
  rw [semAt_of h (by simp), h]
  exact hK
theorem wpIn_skip' {F : Fence} (hF : WF F) {n : Nat} {o : Oper} {a : Act} {w w' : World} {K : Act → World → Prop} {Q : Exit → Act → World → Prop} (h : (execOp a.eval o).run P w = .ok .skip w') (hK : K (a.put o.dst undef) w') : o.wpIn F n P a w K Q := by
  refine ⟨fun f _ => hF.fn f, ?_⟩
  rw [semAt_of h (by simp), h]
  exact hK
theorem wpIn_act {F : Fence} (hF : WF F) {n : Nat} {o : Oper} {a : Act} {w : World} {K : Act → World → Prop} {Q : Exit → Act → World → Prop} {n0 : Nat} {ρ : Rho} {H H' : AH} {v : AV} (h : ActN P n0 ρ H w ((execOp a.eval o).run P w) v H') (hK : ∀ v' w' ρ', Sim P n0 ρ H w ρ' H' w' → VR ρ' v v' → K (a.put o.dst v') w') : o.wpIn F n P a w K Q := by
  obtain ⟨v', w', ρ', h1, h2, h3⟩ := h
  rcases h1 with h1 | ⟨h1, rfl⟩
  · exact wpIn_value hF h1 (hK _ _ _ h2 h3)
  · exact wpIn_skip' hF h1 (hK _ _ _ h2 h3)

/-! ### Calls -/
/-- A call of function f: it is entered and keeps its contract, or answers at once. -/
def GoCall (P : Program) (f : FuncId) (vs : Array Value) (w : World) (K : Value → World → Prop) : Prop :=
  ((callFunc f vs).run P w = .ok (.enter f vs) w ∧ ∀ n (R : Ending → World → Prop), (∀ v w', K v w' → R (.returned v) w') → CallsIn Fence.wide n P f vs w R) ∨
  ∃ v w', (callFunc f vs).run P w = .ok (.value v) w' ∧ K v w'
/-- A round of the loop whose record is l. -/
def GoRound (P : Program) (l : Nat) (vs : Array Value) (w : World) (K : Value → World → Prop) : Prop :=
  ∃ r : Loop, w.heap[l]? = some (.loop r) ∧ vs.size = r.params.size ∧ ∀ n (R : Ending → World → Prop), (∀ v w', K v w' → R (.returned v) w') →
    RoundIn Fence.wide n P l r.fn ((r.params.zip vs).foldl (fun tmps (t, a) => tmps.setIfInBounds t a) r.tmps) r.assign r.body w R
structure SubOk (P : Program) (ent : FuncId → EK) (sub : Sub) : Prop where
  call : ∀ (n0 : Nat) (ρ : Rho) (H : AH) (w : World) (f : FuncId) (args : List AV) (vs : Array Value) (k : AV → AH → Bool) (K : Value → World → Prop), HR P n0 ρ H w → n0 ≤ w.heap.size → VRs ρ args vs.toList → sub.call f args H k = true →
    (∀ v H' ρ' w' v', k v H' = true → VR ρ' v v' → Sim P n0 ρ H w ρ' H' w' → K v' w') → GoCall P f vs w K ∧ (ent f = .go → (callFunc f vs).run P w = .ok (.enter f vs) w ∧ ∀ n (R : Ending → World → Prop), (∀ v w', K v w' → R (.returned v) w') → CallsIn Fence.wide n P f vs w R)
  round : ∀ (n0 : Nat) (ρ : Rho) (H : AH) (w : World) (l : Pa) (lc : Loc) (args : List AV) (vs : Array Value) (k : AV → AH → Bool) (K : Value → World → Prop), HR P n0 ρ H w → n0 ≤ w.heap.size → ρ l = some lc → VRs ρ args vs.toList → sub.round l args H k = true →
    (∀ v H' ρ' w' v', k v H' = true → VR ρ' v v' → Sim P n0 ρ H w ρ' H' w' → K v' w') → GoRound P lc.c vs w K

theorem callsIn_F {F : Fence} (hF : WF F) {n : Nat} {f : FuncId} {vs : Array Value} {w : World} {R : Ending → World → Prop} (h : CallsIn Fence.wide n P f vs w R) : CallsIn F n P f vs w R :=
  ⟨hF.fn f, fun cs _ => by
    obtain ⟨e, w', fr, h1, h2, h3, h4⟩ := h.2 cs (room_wide _)
    refine ⟨e, w', fr, h1, ?_, h3, h4⟩
    have mono : ∀ m, Machine.fenced P Fence.wide m → Machine.fenced P F m := fun m hm g hg => ⟨fun h => (by rw [hF.alive] at h; cases h), .inl (hF.fn _), fun f _ => hF.fn f, hF.room _⟩
    cases e with
    | returned v => exact StepsIn.mono mono h2
    | panicked c => exact StepsIn.mono mono h2
    | outgrown => exact h2⟩
theorem roundIn_F {F : Fence} (hF : WF F) {n : Nat} {l f : Nat} {tmps : Array Value} {a b : Code} {w : World} {R : Ending → World → Prop} (h : RoundIn Fence.wide n P l f tmps a b w R) : RoundIn F n P l f tmps a b w R :=
  ⟨hF.fn f, fun c cs _ => by
    obtain ⟨e, w', h1, h2⟩ := h.2 c cs (room_wide _)
    refine ⟨e, w', h1, ?_⟩
    have mono : ∀ m, Machine.fenced P Fence.wide m → Machine.fenced P F m := fun m hm g hg => ⟨fun h => (by rw [hF.alive] at h; cases h), .inl (hF.fn _), fun f _ => hF.fn f, hF.room _⟩
    cases e with
    | returned v => exact StepsIn.mono mono h2
    | panicked c => exact StepsIn.mono mono h2
    | outgrown => exact h2⟩
end Go.Ab
