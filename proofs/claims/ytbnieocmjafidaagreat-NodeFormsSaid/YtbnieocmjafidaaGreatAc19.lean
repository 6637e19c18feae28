/- The abstract machine, 19: what is kept of an operation is what it does. -/
import Derived.Test.YtbnieocmjafidaaGreatAc18
set_option linter.unusedVariables false
set_option linter.unusedSimpArgs false
namespace Go.Ab
variable {P : Program}

theorem eqGuard_skip {op : BinOp} (h : op ≠ .eql ∧ op ≠ .neq) (t : TypeId) (x y : Operand) (a b : Value) (w : World) : (eqGuard op t x y a b).run P w = .ok () w := by
  cases op <;> first | rfl | exact absurd rfl h.1 | exact absurd rfl h.2
theorem eqGuard_ok {op : BinOp} (hop : op = .eql ∨ op = .neq) {t : TypeId} {x y : Operand} {a b : Value} (w : World) (h1 : a = .nilIface → b ≠ .nilIface) (h2 : (∃ c d, a = .agg c ∧ b = .agg d) → P.eqGuardType P.depth t = false) : (eqGuard op t x y a b).run P w = .ok () w := by
  have hm : (match op with | .eql | .neq => true | _ => false) = true := by rcases hop with rfl | rfl <;> rfl
  unfold eqGuard
  rcases hop with rfl | rfl
  all_goals
    simp only [Bool.not_true, Bool.false_eq_true, if_false]
    split
    · exact absurd rfl (h1 rfl)
    · simp [Sem.run_bind, Result.andThen, h2 ⟨_, _, rfl, rfl⟩]
    · rfl

def ReadS (P : Program) (o : Oper) (f : AS → AH → Option AV) : Prop :=
  ∀ (n0 : Nat) (ρ : Rho) (H : AH) (w : World) (S : AS) (e : Operand → Value) (v : AV), HQ P n0 ρ H w → (∀ x ∈ o.op.operands.toList, OR ρ S e x) → f S H = some v → ∃ v', (execOp e o).run P w = .ok (.value v') w ∧ VR ρ v v'
def ForkS (P : Program) (o : Oper) (f : AS → AH → Option (List AV)) : Prop :=
  ∀ (n0 : Nat) (ρ : Rho) (H : AH) (w : World) (S : AS) (e : Operand → Value) (vs : List AV), HQ P n0 ρ H w → (∀ x ∈ o.op.operands.toList, OR ρ S e x) → f S H = some vs → ∃ v v', v ∈ vs ∧ (execOp e o).run P w = .ok (.value v') w ∧ VR ρ v v'
def AllocS (P : Program) (o : Oper) (f : AS → Option (AK × AB)) : Prop :=
  ∀ (ρ : Rho) (w : World) (S : AS) (e : Operand → Value) (k : AK) (x : AB), (∀ x ∈ o.op.operands.toList, OR ρ S e x) → f S = some (k, x) →
    ∃ v' o' n, (execOp e o).run P w = .ok (.value v') (w.alloc o') ∧ BR P ρ x ⟨w.heap.size, 0, n⟩ o' ∧ ∀ ρ' b, ρ' b = some ⟨w.heap.size, 0, n⟩ → VR ρ' (k.at b) v'
/-- What an act leaves: a value, or none. -/
def ActN (P : Program) (n0 : Nat) (ρ : Rho) (H : AH) (w : World) (r : Result Next) (v : AV) (H' : AH) : Prop :=
  ∃ v' w' ρ', (r = .ok (.value v') w' ∨ (r = .ok .skip w' ∧ v' = undef)) ∧ Sim P n0 ρ H w ρ' H' w' ∧ VR ρ' v v'
def ActS (P : Program) (o : Oper) (f : AS → AH → Option (AV × AH)) : Prop :=
  ∀ (n0 : Nat) (ρ : Rho) (H H' : AH) (w : World) (S : AS) (e : Operand → Value) (v : AV), HR P n0 ρ H w → n0 ≤ w.heap.size → (∀ x ∈ o.op.operands.toList, OR ρ S e x) → f S H = some (v, H') → ActN P n0 ρ H w ((execOp e o).run P w) v H'
def NextS (P : Program) (o : Oper) (f : AS → AH → Option (List (AV × AH))) : Prop :=
  ∀ (n0 : Nat) (ρ : Rho) (H : AH) (w : World) (S : AS) (e : Operand → Value) (ps : List (AV × AH)), HR P n0 ρ H w → n0 ≤ w.heap.size → (∀ x ∈ o.op.operands.toList, OR ρ S e x) → f S H = some ps → ∃ p, p ∈ ps ∧ ActN P n0 ρ H w ((execOp e o).run P w) p.1 p.2
def CallS (o : Oper) (g : Opd) (args : List Opd) : Prop := ∃ (c : Call) (f : Operand), o.op = .call c ∧ c.callee = .value f ∧ opE f = some g ∧ opL c.args.toList = some args
def OFS (P : Program) (o : Oper) : OF → Prop
  | .read f => ReadS P o f
  | .fork f => ForkS P o f
  | .alloc f => AllocS P o f
  | .act f => ActS P o f
  | .next f => NextS P o f
  | .call g args => CallS o g args

theorem ActR.next {n0 : Nat} {ρ : Rho} {H H' : AH} {w : World} {s : Sem Value} {v : AV} (h : ActR P n0 ρ H w (s.run P w) v H') : ActN P n0 ρ H w ((do pure (Next.value (← s)) : Sem Next).run P w) v H' := by
  obtain ⟨v', w', ρ', h1, h2, h3⟩ := h
  exact ⟨v', w', ρ', .inl (run_v h1), h2, h3⟩
theorem run_v' {s : Sem Value} {w w' : World} {r : Value} (h : s.run P w = .ok r w') : (do pure (Next.value (← s)) : Sem Next).run P w = .ok (.value r) w' := run_v h
theorem toNext {s : Sem Value} {w : World} {ρ : Rho} {v : AV} (h : ∃ v', s.run P w = .ok v' w ∧ VR ρ v v') : ∃ v', (do pure (Next.value (← s)) : Sem Next).run P w = .ok (.value v') w ∧ VR ρ v v' :=
  let ⟨v', h1, h2⟩ := h; ⟨v', run_v h1, h2⟩
theorem toNextF {s : Sem Value} {w : World} {ρ : Rho} {vs : List AV} (h : ∃ v v', v ∈ vs ∧ s.run P w = .ok v' w ∧ VR ρ v v') : ∃ v v', v ∈ vs ∧ (do pure (Next.value (← s)) : Sem Next).run P w = .ok (.value v') w ∧ VR ρ v v' :=
  let ⟨v, v', h0, h1, h2⟩ := h; ⟨v, v', h0, run_v h1, h2⟩
theorem LaysS.next {s : Sem Value} {w : World} {ρ : Rho} {k : AK} {x : AB} (h : LaysS P s w ρ k x) : ∃ v' o' n, (do pure (Next.value (← s)) : Sem Next).run P w = .ok (.value v') (w.alloc o') ∧ BR P ρ x ⟨w.heap.size, 0, n⟩ o' ∧ ∀ ρ' b, ρ' b = some ⟨w.heap.size, 0, n⟩ → VR ρ' (k.at b) v' :=
  let ⟨v', o, n, h1, h2, h3⟩ := h; ⟨v', o, n, run_v h1, h2, h3⟩

theorem spread_mem {ρ : Rho} {a : AV} {v : Value} (h : VR ρ a v) : ∃ b, b ∈ spread a ∧ VR ρ b v := by
  have one : spread a = [a] → ∃ b, b ∈ spread a ∧ VR ρ b v := fun e => ⟨a, by rw [e]; simp, h⟩
  cases a with
  | rng k lo hi =>
    cases lo with
    | negSucc l => exact one rfl
    | ofNat l => cases hi with
      | negSucc m => exact one rfl
      | ofNat m =>
        cases hc : (Nat.blt m 16 && Nat.beq l 0) with
        | false =>
          apply one
          show (bif (Nat.blt m 16 && Nat.beq l 0) then _ else _) = _
          rw [hc]; rfl
        | true =>
          have e : spread (.rng k (.ofNat l) (.ofNat m)) = Nat.rec (motive := fun _ => List AV) [] (fun i ih => .int k (.ofNat i) :: ih) (Nat.succ m) := by
            show (bif (Nat.blt m 16 && Nat.beq l 0) then _ else _) = _
            rw [hc]; rfl
          obtain ⟨n, rfl, h1, h2⟩ := h
          have hl : (0 : Int) ≤ Int.ofNat l := by simp
          obtain ⟨q, rfl⟩ : ∃ q : Nat, n = Int.ofNat q := ⟨n.toNat, by simp; omega⟩
          have hq : q ≤ m := by simpa using h2
          refine ⟨.int k (Int.ofNat q), ?_, rfl⟩
          rw [e]
          have : ∀ N, q < N → AV.int k (Int.ofNat q) ∈ (Nat.rec (motive := fun _ => List AV) [] (fun i ih => .int k (.ofNat i) :: ih) N : List AV) := fun N hN => by
            induction N with
            | zero => omega
            | succ N ih =>
              by_cases e : q = N
              · subst e; exact List.mem_cons_self
              · exact List.mem_cons_of_mem _ (ih (by omega))
          exact this (Nat.succ m) (by omega)
  | _ => exact one rfl
theorem opL_all {ρ : Rho} {S : AS} {e : Operand → Value} {l : List Operand} {fs : List Opd} (h : opL l = some fs) (ho : ∀ x ∈ l, OR ρ S e x) : VRs ρ (fs.map fun f => f S) (l.map e) := by
  have hall := mapO_all2 h
  clear h
  induction l generalizing fs with
  | nil => cases fs with
    | nil => rfl
    | cons f fs => exact hall.elim
  | cons x l ih => cases fs with
    | nil => exact hall.elim
    | cons f fs => exact ⟨_, _, rfl, ho x (by simp) f hall.1, ih (fun y hy => ho y (by simp [hy])) hall.2⟩
theorem mm_sound {pick : Int → Int → Int} {m2 : Value → Value → Sem Value} (hm : ∀ k a b, m2 (.int k a) (.int k b) = pure (.int k (pick a b))) {ρ : Rho} {S : AS} {k : IntKind} {w : World} : ∀ {l : List Opd} {vs : List Value} {a : Int} {v : AV}, VRs ρ (l.map fun f => f S) vs → mmL pick k S l a = some v →
    ∃ v', (vs.foldlM m2 (.int k a)).run P w = .ok v' w ∧ VR ρ v v'
  | [], vs, a, v, hv, h => by
    obtain rfl := Option.some.inj (show some (AV.int k a) = some v from h)
    simp only [List.map_nil, VRs] at hv
    subst hv
    exact ⟨_, rfl, rfl⟩
  | x :: l, vs, a, v, hv, h => by
    simp only [List.map_cons, VRs] at hv
    obtain ⟨u, us, rfl, h1, h2⟩ := hv
    have h : (match x S with
      | .int k' b => bif kEq k k' then mmL pick k S l (pick a b) else none
      | _ => none) = some v := h
    split at h
    · rename_i k' b hX
      obtain ⟨e1, hq⟩ := cond_some h
      clear h
      obtain rfl := kEq_iff e1
      rw [hX] at h1
      simp only [VR] at h1
      subst h1
      obtain ⟨v', h3, h4⟩ := mm_sound hm (w := w) h2 hq
      refine ⟨v', ?_, h4⟩
      rw [List.foldlM_cons, hm, Sem.run_bind]
      exact h3
    · cases h
theorem maxI_eq (a b : Int) : maxI a b = if b > a then b else a := by
  unfold maxI; rw [ltI_eq]; by_cases h : a < b <;> simp [h]
theorem minI_eq (a b : Int) : minI a b = if b < a then b else a := by
  unfold minI; rw [ltI_eq]; by_cases h : b < a <;> simp [h]
end Go.Ab
