/- The abstract machine, 4: what world an abstract heap stands for; laying a block, writing cells, a row that has moved. -/
import Derived.Test.YtbnieocmjafidaaGreatAc3
import Derived.RangeFuncRecord
import Derived.Laws.IdiomCopy
import Derived.Laws.Cells
set_option linter.unusedVariables false
set_option linter.unusedSimpArgs false
namespace Go.Ab

variable {P : Program}
def TR (ρ : Rho) (T : PT AV) (sz : Nat) (tmps : Array Value) : Prop := tmps.size = sz ∧ ∀ t, VR ρ (someV (T.get (Pa.ofNat t))) (tmps.getD t undef)

/-- A row of abstract cells stands in an array, from s on. -/
def RowR (ρ : Rho) (cs : List AV) (s : Nat) (arr : Array Value) : Prop := ∀ i a, cs[i]? = some a → ∃ v, arr[s + i]? = some v ∧ VR ρ a v ∧ v.oneCell' = true

def EntR (ρ : Rho) (e : AV × AV × Nat) (e' : MapEntry) : Prop := VR ρ e.1 e'.key ∧ VR ρ e.2.1 e'.val ∧ e'.born = e.2.2
def EntsR (ρ : Rho) : List (AV × AV × Nat) → List MapEntry → Prop
  | [], l => l = []
  | e :: es, l => ∃ x l', l = x :: l' ∧ EntR ρ e x ∧ EntsR ρ es l'

/-- A concrete block is one for which an abstract one stands. -/
def BR (P : Program) (ρ : Rho) : AB → Loc → Obj → Prop
  | .dead, _, _ => True
  | .cells cs cl, l, o => ∃ (arr : Array Value) (el : TypeId) (fz : Nat × Nat), o = .cells arr el fz ∧ arr.size = l.n ∧ RowR ρ cs l.s arr ∧ (fz.1 = fz.2 ∨ arr.size ≤ fz.1) ∧ (cl = true → fz.1 = fz.2)
  | .map es c, _, o => ∃ es' : Array MapEntry, o = .map es' c ∧ EntsR ρ es es'.toList
  | .iter m since seen st, l0, o => l0.s = 0 ∧ ∃ m', o = .mapIter m' since seen.toArray st ∧ (match m with | none => m' = none | some r => ∃ l, ρ r = some l ∧ m' = some l.c)
  | .loop st pe fn T ps asg body d, _, o => ∃ l : Loop, o = .loop l ∧ l.state = st ∧ l.pending = pe ∧ (∃ n, ntmpsOf P fn = some n ∧ TR ρ T n l.tmps) ∧ l.params.toList = ps ∧ l.assign = asg ∧ l.body = body ∧ ∃ k, ρ d = some k ∧ l.defers = k.c
  | .deferred op, _, o => o = .deferred (if op then some [] else none)

theorem RowR.mono {ρ ρ' : Rho} (h : ρ.le ρ') {cs s arr} (hr : RowR ρ cs s arr) : RowR ρ' cs s arr := fun i a hi => let ⟨v, h1, h2, h3⟩ := hr i a hi; ⟨v, h1, VR.mono h _ _ h2, h3⟩
theorem TR.mono {ρ ρ' : Rho} (h : ρ.le ρ') {T sz tmps} (ht : TR ρ T sz tmps) : TR ρ' T sz tmps := ⟨ht.1, fun t => VR.mono h _ _ (ht.2 t)⟩
theorem EntsR.mono {ρ ρ' : Rho} (h : ρ.le ρ') : ∀ {es l}, EntsR ρ es l → EntsR ρ' es l
  | [], l, he => he
  | e :: es, l, he => by
    obtain ⟨x, l', e1, ⟨h1, h2, h3⟩, e3⟩ := he
    exact ⟨x, l', e1, ⟨VR.mono h _ _ h1, VR.mono h _ _ h2, h3⟩, EntsR.mono h e3⟩
theorem BR.mono {ρ ρ' : Rho} (h : ρ.le ρ') : ∀ {x l o}, BR P ρ x l o → BR P ρ' x l o
  | .dead, _, _, _ => trivial
  | .cells _ _, _, _, ⟨arr, el, fz, e, h1, h2, h3, h4⟩ => ⟨arr, el, fz, e, h1, h2.mono h, h3, h4⟩
  | .map _ _, _, _, ⟨es', e, h1⟩ => ⟨es', e, h1.mono h⟩
  | .iter m _ _ _, _, _, ⟨h0, m', e, h1⟩ => ⟨h0, m', e, by cases m with
    | none => exact h1
    | some r => obtain ⟨l, h2, h3⟩ := h1; exact ⟨l, h _ _ h2, h3⟩⟩
  | .loop .., _, _, ⟨l, e, h1, h2, h4, h5, h6, h7, k, h8, h9⟩ => ⟨l, e, h1, h2, (let ⟨n, a, b⟩ := h4; ⟨n, a, b.mono h⟩), h5, h6, h7, k, h _ _ h8, h9⟩
  | .deferred _, _, _, e => e

/-- The world is one for which the abstract heap stands, so far as the heap goes. Below n0: what lay when all began. -/
structure HQ (P : Program) (n0 : Nat) (ρ : Rho) (H : AH) (w : World) : Prop where
  inj : ∀ b b' l l', ρ b = some l → ρ b' = some l' → l.c = l'.c → H.get b ≠ some .dead → H.get b' ≠ some .dead → b = b'
  blk : ∀ b l, ρ b = some l → n0 ≤ l.c ∧ ∃ o, w.heap[l.c]? = some o ∧ ∀ x, H.get b = some x → BR P ρ x l o
/-- .. and nothing is known of numbers that are to come. -/
structure HR (P : Program) (n0 : Nat) (ρ : Rho) (H : AH) (w : World) : Prop extends HQ P n0 ρ H w where
  fresh : ∀ b, H.nx.toNat ≤ b.toNat → ρ b = none
  top : ∀ b, H.nx.toNat ≤ b.toNat → H.get b = none

/-- From one related state to another. -/
structure Sim (P : Program) (n0 : Nat) (ρ : Rho) (H : AH) (w : World) (ρ' : Rho) (H' : AH) (w' : World) : Prop where
  le : ρ.le ρ'
  hr : HR P n0 ρ' H' w'
  nx : H.nx.toNat ≤ H'.nx.toNat
  old : ∀ b, b.toNat < H.nx.toNat → ρ b = none → ρ' b = none ∧ H'.get b = H.get b
  kept : ∀ c, c < w.heap.size → (∀ b l, ρ b = some l → l.c ≠ c) → w'.heap[c]? = w.heap[c]?
  newc : ∀ b l, ρ' b = some l → w.heap.size ≤ l.c ∨ ∃ b0 l0, ρ b0 = some l0 ∧ l0.c = l.c
  size : w.heap.size ≤ w'.heap.size
  os : w'.os = w.os
  tape : w'.tape = w.tape
  output : w'.output = w.output

theorem Sim.refl {n0 ρ H w} (h : HR P n0 ρ H w) : Sim P n0 ρ H w ρ H w :=
  ⟨Rho.le_refl _, h, Nat.le_refl _, fun _ _ h => ⟨h, rfl⟩, fun _ _ _ => rfl, fun b l h => .inr ⟨b, l, h, rfl⟩, Nat.le_refl _, rfl, rfl, rfl⟩
theorem Sim.trans {n0 ρ H w ρ' H' w' ρ'' H'' w''} (h : Sim P n0 ρ H w ρ' H' w') (k : Sim P n0 ρ' H' w' ρ'' H'' w'') : Sim P n0 ρ H w ρ'' H'' w'' where
  le := h.le.trans k.le
  hr := k.hr
  nx := Nat.le_trans h.nx k.nx
  old := fun b hb hn => by
    obtain ⟨h1, h2⟩ := h.old b hb hn
    obtain ⟨h3, h4⟩ := k.old b (Nat.lt_of_lt_of_le hb h.nx) h1
    exact ⟨h3, h4.trans h2⟩
  kept := fun c hc hn => by
    rw [k.kept c (Nat.lt_of_lt_of_le hc h.size) (fun b l hb e => ?_), h.kept c hc hn]
    rcases h.newc b l hb with h1 | ⟨b0, l0, h1, h2⟩
    · omega
    · exact hn b0 l0 h1 (h2.trans e)
  newc := fun b l hb => by
    rcases k.newc b l hb with h1 | ⟨b0, l0, h1, h2⟩
    · exact .inl (Nat.le_trans h.size h1)
    · rcases h.newc b0 l0 h1 with h3 | ⟨b1, l1, h3, h4⟩
      · exact .inl (h2 ▸ h3)
      · exact .inr ⟨b1, l1, h3, h4.trans h2⟩
  size := Nat.le_trans h.size k.size
  os := k.os.trans h.os
  tape := k.tape.trans h.tape
  output := k.output.trans h.output
theorem Sim.below {n0 ρ H w ρ' H' w'} (h0 : HR P n0 ρ H w) (hn : n0 ≤ w.heap.size) (h : Sim P n0 ρ H w ρ' H' w') : RowKit.Below n0 w w' :=
  ⟨h.os, h.tape, h.output, h.size, fun k hk => h.kept k (by omega) fun b l hb e => by have := (h0.blk b l hb).1; omega⟩

/-- A draw. -/
theorem HR.drew {n0 ρ H} {w : World} (h : HR P n0 ρ H w) : HR P n0 ρ H { w with drawn := w.drawn + 1 } := ⟨⟨h.inj, h.blk⟩, h.fresh, h.top⟩
theorem Sim.drew {n0 ρ H} {w : World} (h : HR P n0 ρ H w) : Sim P n0 ρ H w ρ H { w with drawn := w.drawn + 1 } :=
  ⟨Rho.le_refl _, h.drew, Nat.le_refl _, fun _ _ h => ⟨h, rfl⟩, fun _ _ _ => rfl, fun b l h => .inr ⟨b, l, h, rfl⟩, Nat.le_refl _, rfl, rfl, rfl⟩

noncomputable def Rho.add (ρ : Rho) (b : Pa) (l : Loc) : Rho := fun x => if x = b then some l else ρ x
theorem Rho.le_add {ρ : Rho} {b : Pa} {l : Loc} (h : ρ b = none) : ρ.le (ρ.add b l) := fun x y hx => by
  unfold Rho.add
  by_cases e : x = b
  · subst e; rw [h] at hx; cases hx
  · simp [e, hx]

theorem AH.get_new (H : AH) (x : AB) (b : Pa) : (H.new x).get b = if b = H.nx then some x else H.get b := PT.get_put _ _ _ _
theorem AH.get_set (H : AH) (k : Pa) (x : AB) (b : Pa) : (H.set k x).get b = if b = k then some x else H.get b := PT.get_put _ _ _ _
theorem AH.nx_new (H : AH) (x : AB) : (H.new x).nx.toNat = H.nx.toNat + 1 := Pa.toNat_succ _
theorem AH.nx_set (H : AH) (k : Pa) (x : AB) : (H.set k x).nx = H.nx := rfl

/-- A new block, at abstract number b that no concrete block has yet (promised, or just made). -/
theorem HR.lay {n0 ρ H} {w : World} (h : HR P n0 ρ H w) (hn : n0 ≤ w.heap.size) {b : Pa} {x : AB} {n : Nat} {o : Obj} (hb : ρ b = none) (hlt : b.toNat < H.nx.toNat) (hx : H.get b = some x)
    (hbr : BR P ρ x ⟨w.heap.size, 0, n⟩ o) : HR P n0 (ρ.add b ⟨w.heap.size, 0, n⟩) H (w.alloc o) := by
  have hle : ρ.le (ρ.add b ⟨w.heap.size, 0, n⟩) := Rho.le_add hb
  have hlow : ∀ b l, ρ b = some l → l.c < w.heap.size := fun b l hb => by
    obtain ⟨_, o', ho, _⟩ := h.blk b l hb
    exact (Array.getElem?_eq_some_iff.1 ho).1
  refine ⟨⟨fun b1 b2 l1 l2 h1 h2 hc hd1 hd2 => ?_, fun b1 l1 h1 => ?_⟩, fun b1 h1 => ?_, h.top⟩
  · unfold Rho.add at h1 h2
    by_cases e1 : b1 = b <;> by_cases e2 : b2 = b
    · rw [e1, e2]
    · simp only [e1, if_true, Option.some.injEq] at h1; simp only [e2, if_false] at h2
      subst h1; have := hlow _ _ h2; simp only at hc; omega
    · simp only [e1, if_false] at h1; simp only [e2, if_true, Option.some.injEq] at h2
      subst h2; have := hlow _ _ h1; simp only at hc; omega
    · simp only [e1, e2, if_false] at h1 h2
      exact h.inj _ _ _ _ h1 h2 hc hd1 hd2
  · by_cases e1 : b1 = b
    · simp only [Rho.add, e1, if_true, Option.some.injEq] at h1
      subst h1
      exact ⟨hn, o, World.alloc_heap_new w o, fun y hy => by rw [e1, hx] at hy; cases hy; exact hbr.mono hle⟩
    · simp only [Rho.add, e1, if_false] at h1
      obtain ⟨hc, o', ho, hbr'⟩ := h.blk b1 l1 h1
      refine ⟨hc, o', ?_, fun y hy => (hbr' y hy).mono hle⟩
      rw [RowKit.Below.heap_alloc _ _ _ (hlow _ _ h1)]; exact ho
  · have : b1 ≠ b := fun e => by rw [e] at h1; omega
    simp only [Rho.add, this, if_false]
    exact h.fresh b1 h1

theorem Sim.lay {n0 ρ H} {w : World} (h : HR P n0 ρ H w) (hn : n0 ≤ w.heap.size) {x : AB} {n : Nat} {o : Obj}
    (hbr : BR P ρ x ⟨w.heap.size, 0, n⟩ o) : Sim P n0 ρ H w (ρ.add H.nx ⟨w.heap.size, 0, n⟩) (H.new x) (w.alloc o) := by
  have hb : ρ H.nx = none := h.fresh _ (Nat.le_refl _)
  have h' : HR P n0 ρ (H.new x) w := by
    refine ⟨⟨fun b1 b2 l1 l2 h1 h2 hc hd1 hd2 => ?_, fun b1 l1 h1 => ?_⟩, fun b1 h1 => h.fresh b1 (by have h1 := h1; rw [AH.nx_new] at h1; omega), fun b1 h1 => by
      have h1 := h1; rw [AH.nx_new] at h1
      rw [AH.get_new, if_neg (fun e => by rw [e] at h1; omega)]; exact h.top b1 (by omega)⟩
    · have e1 : b1 ≠ H.nx := fun e => by rw [e, hb] at h1; cases h1
      have e2 : b2 ≠ H.nx := fun e => by rw [e, hb] at h2; cases h2
      rw [AH.get_new, if_neg e1] at hd1
      rw [AH.get_new, if_neg e2] at hd2
      exact h.inj _ _ _ _ h1 h2 hc hd1 hd2
    · have e1 : b1 ≠ H.nx := fun e => by rw [e, hb] at h1; cases h1
      obtain ⟨hc, o', ho, hbr'⟩ := h.blk b1 l1 h1
      exact ⟨hc, o', ho, fun y hy => by rw [AH.get_new, if_neg e1] at hy; exact hbr' y hy⟩
  refine ⟨Rho.le_add hb, h'.lay hn hb (by rw [AH.nx_new]; omega) (by rw [AH.get_new, if_pos rfl]) hbr, by rw [AH.nx_new]; omega, fun b hlt hnone => ?_, fun c hc _ => RowKit.Below.heap_alloc _ _ _ hc, fun b l hbl => ?_, by simp, rfl, rfl, rfl⟩
  · have e : b ≠ H.nx := fun e => by rw [e] at hlt; omega
    exact ⟨by simp only [Rho.add, e, if_false]; exact hnone, by rw [AH.get_new, if_neg e]⟩
  · by_cases e : b = H.nx
    · simp only [Rho.add, e, if_true, Option.some.injEq] at hbl; subst hbl; exact .inl (Nat.le_refl _)
    · simp only [Rho.add, e, if_false] at hbl; exact .inr ⟨b, l, hbl, rfl⟩

/-- A block is turned. -/
theorem Sim.turn {n0 ρ H} {w w' : World} (h : HR P n0 ρ H w) {b : Pa} {l : Loc} {x : AB} {o : Obj} (hb : ρ b = some l) (hd : H.get b ≠ some .dead)
    (hw : w'.heap[l.c]? = some o) (hs : w'.heap.size = w.heap.size) (ho : ∀ k, k ≠ l.c → w'.heap[k]? = w.heap[k]?) (hos : w'.os = w.os) (htape : w'.tape = w.tape) (hout : w'.output = w.output)
    (hbr : BR P ρ x l o) : Sim P n0 ρ H w ρ (H.set b x) w' := by
  refine ⟨Rho.le_refl _, ⟨⟨fun b1 b2 l1 l2 h1 h2 hc hd1 hd2 => ?_, fun b1 l1 h1 => ?_⟩, h.fresh, fun b1 h1 => by
    rw [AH.get_set, if_neg (fun e => by rw [e] at h1; have := h.fresh b h1; rw [hb] at this; cases this)]; exact h.top b1 h1⟩, Nat.le_refl _, fun b1 _ hn => ⟨hn, ?_⟩, fun c _ hn => ho c fun e => hn b l hb e.symm, fun b l h => .inr ⟨b, l, h, rfl⟩, Nat.le_of_eq hs.symm, hos, htape, hout⟩
  · have a1 : H.get b1 ≠ some .dead := by
      rw [AH.get_set] at hd1
      by_cases e : b1 = b
      · rw [e]; exact hd
      · rwa [if_neg e] at hd1
    have a2 : H.get b2 ≠ some .dead := by
      rw [AH.get_set] at hd2
      by_cases e : b2 = b
      · rw [e]; exact hd
      · rwa [if_neg e] at hd2
    exact h.inj _ _ _ _ h1 h2 hc a1 a2
  · by_cases e : b1 = b
    · subst e
      rw [hb] at h1
      cases h1
      exact ⟨(h.blk _ _ hb).1, o, hw, fun y hy => by rw [AH.get_set, if_pos rfl] at hy; cases hy; exact hbr⟩
    · obtain ⟨hc, o', ho', hbr'⟩ := h.blk b1 l1 h1
      by_cases e2 : l1.c = l.c
      · refine ⟨hc, o, by rw [e2]; exact hw, fun y hy => ?_⟩
        rw [AH.get_set, if_neg e] at hy
        by_cases hyd : y = .dead
        · subst hyd; trivial
        · exact absurd (h.inj _ _ _ _ h1 hb e2 (by rw [hy]; simpa using hyd) hd) e
      · exact ⟨hc, o', by rw [ho _ e2]; exact ho', fun y hy => by rw [AH.get_set, if_neg e] at hy; exact hbr' y hy⟩
  · rw [AH.get_set, if_neg]
    intro e; rw [e, hb] at hn; cases hn
end Go.Ab
