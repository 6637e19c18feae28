/- The abstract machine, 8: what is built; what is laid. -/
import Derived.Test.YtbnieocmjafidaaGreatAc7
set_option linter.unusedVariables false
set_option linter.unusedSimpArgs false
namespace Go.Ab
variable {P : Program}

def All2 {α β : Type} (R : α → β → Prop) : List α → List β → Prop
  | [], [] => True
  | a :: as, b :: bs => R a b ∧ All2 R as bs
  | _, _ => False
theorem mapO_all2 {α β : Type} {f : α → Option β} : ∀ {as : List α} {bs : List β}, mapO f as = some bs → All2 (fun a b => f a = some b) as bs
  | [], bs, h => by have h : some [] = some bs := h; simp only [Option.some.injEq] at h; subst h; trivial
  | a :: as, bs, h => by
    have h : ob (f a) (fun b => ob (mapO f as) fun bs => some (b :: bs)) = some bs := h
    obtain ⟨b, hb, h⟩ := ob_eq_some.1 h
    obtain ⟨bs', hbs, h⟩ := ob_eq_some.1 h
    simp only [Option.some.injEq] at h
    subst h
    exact ⟨hb, mapO_all2 hbs⟩
theorem All2.imp {α β : Type} {R R' : α → β → Prop} (h : ∀ a b, R a b → R' a b) : ∀ {as : List α} {bs : List β}, All2 R as bs → All2 R' as bs
  | [], [], _ => trivial
  | a :: as, b :: bs, hh => ⟨h _ _ hh.1, hh.2.imp h⟩

theorem foldl_ov (off : Nat) : ∀ (vs : List Value) (i : Nat) (cells : Array Value), (vs.zipIdx i).foldl (fun cs (p : Value × Nat) => cs.setIfInBounds (off + p.2) p.1) cells = ov cells (off + i) vs
  | [], _, _ => rfl
  | v :: vs, i, cells => by
    simp only [List.zipIdx_cons, List.foldl_cons]
    rw [foldl_ov off vs (i + 1)]
    rfl
theorem fill_sound {ρ : Rho} {S : AS} {e : Operand → Value} {place : Nat → Option (Nat × Nat)} : ∀ {parts : List (Nat × Operand)} {pl : List (Nat × Nat × Opd)} {cs r : List AV} {cells : Array Value},
    All2 (fun p q => place p.1 = some (q.1, q.2.1) ∧ q.2.1 ≠ 0 ∧ opE p.2 = some q.2.2) parts pl → (∀ p ∈ parts, OR ρ S e p.2) → VRs ρ cs cells.toList → (∀ u ∈ cells.toList, u.oneCell' = true) → fillF pl S cs = some r →
    ∃ cells', Instr.fill place cells (parts.map fun p => (p.1, e p.2)) = some cells' ∧ VRs ρ r cells'.toList ∧ ∀ u ∈ cells'.toList, u.oneCell' = true
  | [], [], cs, r, cells, _, _, hv, h1, h => by
    have h : some cs = some r := h
    simp only [Option.some.injEq] at h
    subst h
    exact ⟨cells, rfl, hv, h1⟩
  | [], _ :: _, _, _, _, h, _, _, _, _ => h.elim
  | _ :: _, [], _, _, _, h, _, _, _, _ => h.elim
  | p :: parts, q :: pl, cs, r, cells, ⟨⟨hp, hne, hx⟩, hall⟩, ho, hv, h1, h => by
    have h : ob (q.2.2 S).cells (fun vs => cond (Nat.beq (lenL vs) q.2.1) (ob (putAt vs cs q.1) (fillF pl S)) none) = some r := h
    obtain ⟨as, has, h⟩ := ob_eq_some.1 h
    obtain ⟨hl, h⟩ := cond_some h
    obtain ⟨cs', hcs, h⟩ := ob_eq_some.1 h
    rw [lenL_eq, nbeq, decide_eq_true_eq] at hl
    obtain ⟨hc1, hc2⟩ := (ho p (by simp) _ hx).cells has
    have hlen := VRs_length hc1
    have hclen := VRs_length hv
    obtain ⟨hb, hsz, hget⟩ := putAt_spec hcs
    have hlen' : (e p.2).cells.size = as.length := by simpa using hlen
    have hclen' : cells.size = cs.length := by simpa using hclen
    have hcs0 : (e p.2).cells.size = q.2.1 := by omega
    have hbound : q.1 + (e p.2).cells.size ≤ cells.size := by
      rcases hb with hb | hb
      · rw [hb] at hlen'; simp at hlen'; simp [hb] at hl; omega
      · omega
    have hbl : q.1 + (e p.2).cells.toList.length ≤ cells.size := by simpa using hbound
    obtain ⟨cells', h3, h4, h5⟩ := fill_sound (e := e) (cells := ov cells (q.1 + 0) (e p.2).cells.toList) hall (fun p' hp' => ho p' (by simp [hp'])) (VRs_of (by simp [ov_size]; omega) fun i a hi => by
      rw [hget] at hi
      have : (ov cells (q.1 + 0) (e p.2).cells.toList).toList[i]? = (ov cells (q.1 + 0) (e p.2).cells.toList)[i]? := by simp
      rw [this, ov_get _ _ _ _ (by omega)]
      by_cases hin : q.1 ≤ i ∧ i < q.1 + as.length
      · rw [if_pos hin] at hi
        obtain ⟨v, hv1, hv2⟩ := VRs_get hc1 _ _ hi
        refine ⟨v, ?_, hv2⟩
        rw [if_pos (by omega), ← hv1]
        congr 1
      · rw [if_neg hin] at hi
        obtain ⟨v, hv1, hv2⟩ := VRs_get hv _ _ hi
        exact ⟨v, by rw [if_neg (by omega)]; simpa using hv1, hv2⟩) (fun u hu => by
      obtain ⟨i, hi⟩ := List.mem_iff_getElem?.1 hu
      have : (ov cells (q.1 + 0) (e p.2).cells.toList).toList[i]? = (ov cells (q.1 + 0) (e p.2).cells.toList)[i]? := by simp
      rw [this, ov_get _ _ _ _ (by omega)] at hi
      split at hi
      · exact hc2 u (List.mem_of_getElem? hi)
      · exact h1 u (List.mem_of_getElem? (by simpa using hi))) h
    refine ⟨cells', ?_, h4, h5⟩
    have hcond : (decide ((e p.2).cells.size ≠ q.2.1) || decide (q.1 + (e p.2).cells.size > cells.size)) = false := by simp; omega
    simp only [List.map_cons, Instr.fill, hp]
    rw [if_neg (by rw [hcond]; simp), ← h3]
    congr 1
    rw [← foldl_ov, ← Array.foldl_toList]
    simp

theorem structPlaces_all {fields : List Field} : ∀ {ps : List (Nat × Operand)} {pl : List (Nat × Nat × Opd)}, structPlaces P fields ps = some pl →
    All2 (fun p q => (∃ f, fields[p.1]? = some f ∧ sz P f.type = some q.2.1 ∧ q.1 = f.offset) ∧ q.2.1 ≠ 0 ∧ opE p.2 = some q.2.2) ps pl := fun h =>
  (mapO_all2 h).imp fun p q hq => by
    obtain ⟨f, h1, hq⟩ := ob_eq_some.1 hq
    obtain ⟨n, h2, hq⟩ := ob_eq_some.1 hq
    obtain ⟨x, h3, hq⟩ := ob_eq_some.1 hq
    obtain ⟨h4, hq⟩ := cond_none hq
    simp only [Option.some.injEq] at hq
    subst hq
    rw [nbeq, decide_eq_false_iff_not] at h4
    rw [nthL_eq] at h1
    exact ⟨⟨f, h1, h2, rfl⟩, h4, h3⟩
theorem rowPlaces_all {n : Nat} : ∀ {ps : List (Nat × Operand)} {pl : List (Nat × Nat × Opd)}, rowPlaces n ps = some pl →
    All2 (fun p q => (some (p.1 * n, n) : Option (Nat × Nat)) = some (q.1, q.2.1) ∧ q.2.1 ≠ 0 ∧ opE p.2 = some q.2.2) ps pl := fun h =>
  (mapO_all2 h).imp fun p q hq => by
    obtain ⟨x, h3, hq⟩ := ob_eq_some.1 hq
    obtain ⟨h4, hq⟩ := cond_none hq
    simp only [Option.some.injEq] at hq
    subst hq
    rw [nbeq, decide_eq_false_iff_not] at h4
    exact ⟨rfl, h4, h3⟩

theorem mapM_places (w : World) : ∀ (fs : List Field) (r : List (Nat × Nat)), All2 (fun (f : Field) q => sz P f.type = some q.2 ∧ q.1 = f.offset) fs r →
    (fs.mapM fun f => (do pure (f.offset, ← sizeOf f.type) : Sem (Nat × Nat))).run P w = .ok r w
  | [], [], _ => rfl
  | f :: fs, q :: r, ⟨⟨h1, h2⟩, h⟩ => by
    obtain ⟨q1, q2⟩ := q
    simp only at h1 h2
    subst h2
    have e1 : (do pure (f.offset, ← sizeOf f.type) : Sem (Nat × Nat)).run P w = .ok (f.offset, q2) w := by simp [Sem.run_bind, sz_run h1 w, Result.andThen]
    rw [List.mapM_cons, Sem.run_bind, e1]
    simp only [Result.andThen, Sem.run_bind, mapM_places w fs r h]
    rfl
  | [], _ :: _, h => h.elim
  | _ :: _, [], h => h.elim

theorem places_of {fs : List Field} {ns : List Nat} (h : mapO (fun f : Field => sz P f.type) fs = some ns) : All2 (fun (f : Field) (q : Nat × Nat) => sz P f.type = some q.2 ∧ q.1 = f.offset) fs (fs.map fun f => (f.offset, (sz P f.type).getD 0)) := by
  induction fs generalizing ns with
  | nil => trivial
  | cons f fs ih =>
    have h : ob (sz P f.type) (fun b => ob (mapO (fun f : Field => sz P f.type) fs) fun bs => some (b :: bs)) = some ns := h
    obtain ⟨b, hb, h⟩ := ob_eq_some.1 h
    obtain ⟨bs', hbs, h⟩ := ob_eq_some.1 h
    exact ⟨⟨by simp [hb], rfl⟩, ih hbs⟩
theorem build_struct_sound {t : TypeId} {fields : Array Field} {zs : List AV} {pl : List (Nat × Nat × Opd)} {ps : List (Nat × Operand)} {ns : List Nat} (hu : P.underlying t = some (.struct fields)) (hn : mapO (fun f : Field => sz P f.type) fields.toList = some ns)
    (hz : zeros P t = some zs) (hp : structPlaces P fields.toList ps = some pl) {ρ : Rho} {S : AS} {e : Operand → Value} (ho : ∀ p ∈ ps, OR ρ S e p.2) {H : AH} {v : AV} (h : bldF zs pl S H = some v) (w : World) :
    ∃ v', (Instr.build t (ps.map fun p => (p.1, e p.2)).toArray).run P w = .ok v' w ∧ VR ρ v v' := by
  obtain ⟨cs, hfl, hv⟩ := ob_eq_some.1 h
  simp only [Option.some.injEq] at hv
  subst hv
  obtain ⟨z, n, hz1, hz2, hz3, hz4, hz5, hz6⟩ := zeros_run hz w
  have hall := (structPlaces_all hp).imp (R' := fun p q => (fields.toList.map fun f => (f.offset, (sz P f.type).getD 0)).toArray[p.1]? = some (q.1, q.2.1) ∧ q.2.1 ≠ 0 ∧ opE p.2 = some q.2.2) fun p q hq => by
    obtain ⟨⟨f, h1, h2, h3⟩, h4, h5⟩ := hq
    refine ⟨?_, h4, h5⟩
    have h1' : fields[p.1]? = some f := by simpa using h1
    simp [h1', h2, h3]
  obtain ⟨cells', h1, h2, h3⟩ := fill_sound hall ho (hz5 ρ) hz6 hfl
  refine ⟨.agg cells', ?_, cells', rfl, h2, h3⟩
  have hm := mapM_places w _ _ (places_of hn)
  have hm' : (fields.mapM fun f => (do pure (f.offset, ← sizeOf f.type) : Sem (Nat × Nat))).run P w = .ok (fields.toList.map fun f => (f.offset, (sz P f.type).getD 0)).toArray w := by
    rw [Array.mapM_eq_mapM_toList, ← bind_pure_comp, Sem.run_bind, hm]
    rfl
  unfold Instr.build
  rw [Sem.run_bind, hz1]
  simp only [Result.andThen]
  rw [Sem.run_bind, under_run hu]
  simp only [Result.andThen]
  rw [Sem.run_bind, hm']
  simp only [Result.andThen, h1]
  rfl
theorem build_array_sound {t elem : TypeId} {len n : Nat} {zs : List AV} {pl : List (Nat × Nat × Opd)} {ps : List (Nat × Operand)} (hu : P.underlying t = some (.array len elem)) (hn : sz P elem = some n)
    (hz : zeros P t = some zs) (hp : rowPlaces n ps = some pl) {ρ : Rho} {S : AS} {e : Operand → Value} (ho : ∀ p ∈ ps, OR ρ S e p.2) {H : AH} {v : AV} (h : bldF zs pl S H = some v) (w : World) :
    ∃ v', (Instr.build t (ps.map fun p => (p.1, e p.2)).toArray).run P w = .ok v' w ∧ VR ρ v v' := by
  obtain ⟨cs, hfl, hv⟩ := ob_eq_some.1 h
  simp only [Option.some.injEq] at hv
  subst hv
  obtain ⟨z, m, hz1, hz2, hz3, hz4, hz5, hz6⟩ := zeros_run hz w
  obtain ⟨cells', h1, h2, h3⟩ := fill_sound (place := fun i => some (i * n, n)) (rowPlaces_all hp) ho (hz5 ρ) hz6 hfl
  refine ⟨.agg cells', ?_, cells', rfl, h2, h3⟩
  unfold Instr.build
  rw [Sem.run_bind, hz1]
  simp only [Result.andThen]
  rw [Sem.run_bind, under_run hu]
  simp only [Result.andThen]
  rw [Sem.run_bind, sz_run hn]
  simp only [Result.andThen, h1]
  rfl

/-! ### What is laid -/
/-- An operation that lays a block. -/
def LaysS (P : Program) (s : Sem Value) (w : World) (ρ : Rho) (k : AK) (x : AB) : Prop :=
  ∃ v' o n, s.run P w = .ok v' (w.alloc o) ∧ BR P ρ x ⟨w.heap.size, 0, n⟩ o ∧ ∀ ρ' b, ρ' b = some ⟨w.heap.size, 0, n⟩ → VR ρ' (k.at b) v'
theorem BR_cells {ρ : Rho} {cs : List AV} {vs : Array Value} {el : TypeId} {g : Nat} (h : VRs ρ cs vs.toList) (h1 : ∀ u ∈ vs.toList, u.oneCell' = true) : BR P ρ (.cells cs true) ⟨g, 0, vs.size⟩ (.cells vs el) :=
  ⟨vs, el, (0, 0), rfl, rfl, fun i a hi => by
    obtain ⟨v, h2, h3⟩ := VRs_get h i a hi
    exact ⟨v, by simpa using h2, h3, h1 v (List.mem_of_getElem? h2)⟩, .inl rfl, fun _ => rfl⟩
theorem alloc_sound {t : TypeId} {zs : List AV} (hz : zeros P t = some zs) (w : World) (ρ : Rho) : LaysS P (Instr.alloc t true (.tuple #[])) w ρ .ptr (.cells zs true) := by
  obtain ⟨z, n, hz1, hz2, hz3, hz4, hz5, hz6⟩ := zeros_run hz w
  refine ⟨_, _, z.cells.size, ?_, BR_cells (el := t) (hz5 ρ) hz6, fun ρ' b hb => ⟨_, hb, rfl⟩⟩
  simp [Instr.alloc, Sem.run_bind, hz1, Result.andThen, newVar, newRow]
theorem box_sound {t : TypeId} {ρ : Rho} {a : AV} {v : Value} {as : List AV} (hv : VR ρ a v) (hc : a.cells = some as) (w : World) : LaysS P (Instr.box t v) w ρ .ptr (.cells as true) := by
  obtain ⟨h1, h2⟩ := hv.cells hc
  refine ⟨_, _, v.cells.size, ?_, BR_cells (el := t) h1 h2, fun ρ' b hb => ⟨_, hb, rfl⟩⟩
  simp [Instr.box, Sem.run_bind, Result.andThen, newVar, newRow]
theorem makeMap_sound {t : TypeId} (w : World) (ρ : Rho) : LaysS P (Instr.makeMap t none) w ρ .map (.map [] 0) := by
  refine ⟨_, _, 0, ?_, ⟨#[], rfl, rfl⟩, fun ρ' b hb => ⟨_, hb, rfl⟩⟩
  simp [Instr.makeMap, Sem.run_bind, Result.andThen]

theorem repl_eq {α : Type} (zs : List α) (n : Nat) : repl zs n = (List.range n).flatMap fun _ => zs := by
  induction n with
  | zero => rfl
  | succ n ih =>
    show catL zs (repl zs n) = _
    rw [catL_eq, ih, List.range_succ_eq_map, List.flatMap_cons, List.flatMap_map]
theorem repl_length {α : Type} (zs : List α) (n : Nat) : (repl zs n).length = n * zs.length := by
  induction n with
  | zero => show (0 : Nat) = _; simp
  | succ n ih => show (catL zs (repl zs n)).length = _; rw [catL_eq, List.length_append, ih, Nat.succ_mul]; omega
theorem repl_get {α : Type} (zs : List α) : ∀ (n i : Nat), i < n * zs.length → (repl zs n)[i]? = zs[i % zs.length]?
  | 0, i, h => by omega
  | n + 1, i, h => by
    show (catL zs (repl zs n))[i]? = _
    rw [catL_eq]
    by_cases hi : i < zs.length
    · rw [List.getElem?_append_left hi, Nat.mod_eq_of_lt hi]
    · have h' : i - zs.length < n * zs.length := by rw [Nat.succ_mul] at h; omega
      rw [List.getElem?_append_right (by omega), repl_get zs n (i - zs.length) h', Nat.mod_eq_sub_mod (a := i) (by omega)]
/-- The zero cells of a row, again and again. -/
theorem repl_sound {ρ : Rho} {zs : List AV} {z : Array Value} (hz : VRs ρ zs z.toList) (h1 : ∀ u ∈ z.toList, u.oneCell' = true) (n : Nat) :
    VRs ρ (repl zs n) ((Array.range (n * z.size)).map (z[· % z.size]!)).toList ∧ ∀ u ∈ ((Array.range (n * z.size)).map (z[· % z.size]!)).toList, u.oneCell' = true := by
  have hl : z.size = zs.length := by simpa using VRs_length hz
  have key : ∀ i, i < n * z.size → ∃ v, z[i % z.size]? = some v ∧ z[i % z.size]! = v := fun i hi => by
    have : i % z.size < z.size := Nat.mod_lt _ (by
      rcases Nat.eq_zero_or_pos z.size with h0 | h0
      · rw [h0] at hi; omega
      · exact h0)
    exact ⟨z[i % z.size], Array.getElem?_eq_getElem this, by simp [getElem!_pos, this]⟩
  constructor
  · refine VRs_of (by simp [repl_length, hl]) fun i a hi => ?_
    have hlt : i < n * zs.length := by rw [← repl_length]; exact (List.getElem?_eq_some_iff.1 hi).1
    rw [repl_get _ _ _ hlt] at hi
    obtain ⟨v, h2, h3⟩ := VRs_get hz _ _ hi
    have h2' : z[i % z.size]? = some v := by rw [hl]; simpa using h2
    refine ⟨v, ?_, h3⟩
    have hlt' : i < n * z.size := by rw [hl]; exact hlt
    obtain ⟨v', h4, h5⟩ := key i hlt'
    rw [h2', Option.some.injEq] at h4
    subst h4
    simp [hlt', h5]
  · intro u hu
    simp only [Array.toList_map, List.mem_map, Array.toList_range, List.mem_range] at hu
    obtain ⟨i, hi, rfl⟩ := hu
    obtain ⟨v', h4, h5⟩ := key i hi
    rw [h5]
    exact h1 _ (by simpa using Array.mem_of_getElem? h4)
theorem buildSlice_sound {t elem : TypeId} {len n : Nat} {zs : List AV} {pl : List (Nat × Nat × Opd)} {ps : List (Nat × Operand)} (hu : P.underlying t = some (.slice elem)) (hn : sz P elem = some n) (hlim : ¬ 16777216 < len * n)
    (hz : zeros P elem = some zs) (hp : rowPlaces n ps = some pl) {ρ : Rho} {S : AS} {e : Operand → Value} (ho : ∀ p ∈ ps, OR ρ S e p.2) {k : AK} {x : AB} (h : bldSF zs len pl S = some (k, x)) (w : World) :
    LaysS P (Instr.buildSlice t len (ps.map fun p => (p.1, e p.2)).toArray) w ρ k x := by
  obtain ⟨cs, hfl, hv⟩ := ob_eq_some.1 h
  simp only [Option.some.injEq, Prod.mk.injEq] at hv
  obtain ⟨rfl, rfl⟩ := hv
  obtain ⟨z, m, hz1, hz2, hz3, hz4, hz5, hz6⟩ := zeros_run hz w
  rw [hn, Option.some.injEq] at hz2
  subst hz2
  obtain ⟨hr1, hr2⟩ := repl_sound (hz5 ρ) hz6 len
  obtain ⟨cells', h1, h2, h3⟩ := fill_sound (place := fun i => some (i * n, n)) (rowPlaces_all hp) ho hr1 hr2 hfl
  refine ⟨.slice (some ⟨w.heap.size, 0, none⟩) len len, .cells cells' elem, cells'.size, ?_, BR_cells (el := elem) h2 h3, fun ρ' b hb => ⟨_, len, hb, rfl, Nat.le_refl _, fun _ => rfl, fun z hz => by cases hz⟩⟩
  have hl2 : ¬ (2 ^ 24 < len * n) := hlim
  unfold Instr.buildSlice
  by_cases h0 : len * n = 0
  · have e1 : ∀ f : Nat → Value, (Array.range 0).map f = #[] := fun f => by simp
    simp only [hz3, h0] at h1
    rw [e1] at h1
    simp [Sem.run_bind, under_run hu, sz_run hn, Result.andThen, h0]
    rw [e1, h1]
    simp [newRow]
  · simp only [hz3] at h1
    simp only [Sem.run_bind, under_run hu, sz_run hn, Result.andThen]
    simp only [gt_iff_lt, hl2, if_false, h0]
    simp [Sem.run_bind, hz1, Result.andThen, hz3, newRow]
    rw [h1]
    simp

theorem bnd_some {S : AS} {d : Nat} {x : Opd} {i : Nat} (h : bnd S d (some x) = some i) : ∃ k, x S = .int k (Int.ofNat i) := by
  simp only [bnd] at h
  split at h
  · rename_i k n hx
    split at h
    · simp only [Option.some.injEq] at h
      subst h
      exact ⟨k, hx⟩
    · cases h
  · cases h
theorem makeSlice_sound {t elem : TypeId} {bytes : Nat} {zs : List AV} (hu : P.underlying t = some (.slice elem)) (hz : zeros P elem = some zs) (hb : bytesOfT P elem = some bytes) {ρ : Rho} {S : AS} {l c : Opd} {vl vc : Value}
    (hl : VR ρ (l S) vl) (hc : VR ρ (c S) vc) {k : AK} {x : AB} (h : mkSF zs bytes l c S = some (k, x)) (w : World) : LaysS P (Instr.makeSlice t vl vc) w ρ k x := by
  obtain ⟨l', h1, h⟩ := ob_eq_some.1 h
  obtain ⟨c', h2, h⟩ := ob_eq_some.1 h
  obtain ⟨hlim, h⟩ := cond_some h
  simp only [Option.some.injEq, Prod.mk.injEq] at h
  obtain ⟨rfl, rfl⟩ := h
  obtain ⟨kl, e1⟩ := bnd_some h1
  obtain ⟨kc, e2⟩ := bnd_some h2
  rw [e1] at hl
  rw [e2] at hc
  simp only [VR] at hl hc
  subst hl hc
  simp only [Bool.and_eq_true, nble, decide_eq_true_eq] at hlim
  obtain ⟨⟨hlc, hc40⟩, hb48⟩ := hlim
  obtain ⟨z, n, hz1, hz2, hz3, hz4, hz5, hz6⟩ := zeros_run hz w
  obtain ⟨hr1, hr2⟩ := repl_sound (hz5 ρ) hz6 c'
  obtain ⟨i, hi, hb⟩ := ob_eq_some.1 hb
  simp only [Option.some.injEq] at hb
  subst hb
  refine ⟨.slice (some ⟨w.heap.size, 0, none⟩) l' c', _, _, ?_, BR_cells (el := elem) hr1 hr2, fun ρ' b hb => ⟨_, c', hb, rfl, Nat.le_refl _, fun _ => rfl, fun z hz => by cases hz⟩⟩
  have wl : IntKind.i64.wrap (Int.ofNat l') = (l' : Int) := wrap_lim .i64 l' (by show l' < 9223372036854775808; omega)
  have wc : IntKind.i64.wrap (Int.ofNat c') = (c' : Int) := wrap_lim .i64 c' (by show c' < 9223372036854775808; omega)
  have b48 : ¬ ((i.bytes : Int) * (c' : Int) > 2 ^ 48) := by
    have : ((Nat.mul i.bytes c' : Nat) : Int) ≤ 281474976710656 := Int.ofNat_le.2 hb48
    have e3 : ((Nat.mul i.bytes c' : Nat) : Int) = (i.bytes : Int) * (c' : Int) := by
      show ((i.bytes * c' : Nat) : Int) = _
      push_cast; rfl
    rw [e3] at this
    have e48 : (2 : Int) ^ 48 = 281474976710656 := by decide
    rw [e48]; omega
  have hti : (typeInfo elem).run P w = .ok i w := by simp [typeInfo, hi]
  unfold Instr.makeSlice
  simp only [Sem.run_bind, under_run hu, Result.andThen, asInt, asIntOf, Sem.run_pure, hti, wl, wc]
  have c1 : (decide ((c' : Int) < 0) || decide ((i.bytes : Int) * (c' : Int) > 2 ^ 48)) = false := by
    simp only [Bool.or_eq_false_iff, decide_eq_false_iff_not]
    exact ⟨by omega, b48⟩
  have c2 : decide ((l' : Int) < 0) = false := decide_eq_false (by omega)
  have c3 : decide ((l' : Int) > (c' : Int)) = false := decide_eq_false (by omega)
  simp only [c1, c2, c3, Bool.or_false, Bool.false_eq_true, if_false]
  simp only [Sem.run_bind, run_askRoom, Result.andThen, Sem.run_pure, sz_run hz2, Int.toNat_natCast]
  have e1 : ∀ f : Nat → Value, (Array.range 0).map f = #[] := fun f => by simp
  by_cases h0 : c' * n = 0
  · rw [if_pos h0]
    simp only [hz3, h0, e1]
    simp [Sem.run_bind, Result.andThen, newRow]
  · rw [if_neg h0]
    simp [Sem.run_bind, hz1, Result.andThen, newRow, hz3]
end Go.Ab
