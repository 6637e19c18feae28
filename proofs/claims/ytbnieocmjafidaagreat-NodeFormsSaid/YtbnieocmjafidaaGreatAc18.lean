/- The abstract machine, 18: appends. -/
import Derived.Test.YtbnieocmjafidaaGreatAc17
set_option linter.unusedVariables false
set_option linter.unusedSimpArgs false
namespace Go.Ab
variable {P : Program}

theorem append_in {st xt elem ty : TypeId} {d : TypeDesc} {ts : Array TypeId} {size n : Nat} (ht0 : ts[0]? = some st) (ht1 : ts[1]? = some xt) (hu : P.underlying st = some (.slice elem)) (hx : P.underlying xt = some d) (hd : ∀ k, d ≠ .int k) (hs : sz P elem = some size) {w w' : World} {vx : Value}
    (hlen : (Builtin.lenOf vx).run P w = .ok n w) {us : List Value} (hus : (Builtin.firstCells size n vx).run P w = .ok us.toArray w) {base : Option Addr} {l c : Nat} (hle : l + n ≤ c) (hst : (match base with | some a => (storeCells (a.add (l * size)) us).run P w | none => .ok () w) = .ok () w') :
    (Builtin.append_ ts ty #[.slice base l c, vx]).run P w = .ok (.slice base (l + n) c) w' := by
  have hz : (match d with | .int _ => true | _ => false) = false := by cases d <;> first | rfl | exact absurd rfl (hd _)
  unfold Builtin.append_
  simp only [ht0, ht1, List.getElem?_toArray, List.getElem?_cons_zero, List.getElem?_cons_succ, Sem.run_bind, under_run hu, sz_run hs, Result.andThen, under_run hx, Sem.run_pure, hz, Bool.false_eq_true, if_false, hlen, hle, if_true, Bool.not_false, hus]
  cases base with
  | none =>
    simp only at hst
    obtain ⟨_, rfl⟩ := Result.ok.inj hst
    rfl
  | some a =>
    simp only at hst
    simp only [Sem.run_bind, hst, Result.andThen, Sem.run_pure]
theorem append_grow {st xt elem ty : TypeId} {d : TypeDesc} {ts : Array TypeId} {size n bytes : Nat} (ht0 : ts[0]? = some st) (ht1 : ts[1]? = some xt) (hu : P.underlying st = some (.slice elem)) (hx : P.underlying xt = some d) (hd : ∀ k, d ≠ .int k) (hs : sz P elem = some size) (hb : bytesOfT P elem = some bytes) {w : World} {vx : Value}
    (hlen : (Builtin.lenOf vx).run P w = .ok n w) {us olds : List Value} (hus : (Builtin.firstCells size n vx).run P w = .ok us.toArray w) {base : Option Addr} {l c : Nat} (holds : (Builtin.firstCells size l (.slice base l c)).run P w = .ok olds.toArray w) (hlt : c < l + n)
    (hbig : l + n ≤ 1099511627776 ∧ 2 * (l + n) * bytes ≤ 281474976710656) {z : Value} (hz0 : (zeroValue elem).run P w = .ok z w) (hzw : ∀ w', (zeroValue elem).run P w' = .ok z w') (how : ∀ w' : World, w'.heap = w.heap → (Builtin.firstCells size l (.slice base l c)).run P w' = .ok olds.toArray w' ∧ (Builtin.firstCells size n vx).run P w' = .ok us.toArray w') :
    ∃ g w1, l + n ≤ g ∧ (w1 = w ∨ w1 = { w with drawn := w.drawn + 1 }) ∧ (Builtin.append_ ts ty #[.slice base l c, vx]).run P w = .ok (.slice (some ⟨w.heap.size, 0, none⟩) (l + n) g) (w1.alloc (.cells (olds.toArray ++ us.toArray ++ Builtin.zeroCells z.cells (g - (l + n))) elem)) := by
  have hz : (match d with | .int _ => true | _ => false) = false := by cases d <;> first | rfl | exact absurd rfl (hd _)
  obtain ⟨g, w1, hc1, hc2, _, hc4⟩ := choose_run (P := P) (.appendCap (l + n) c elem) w
  have hheap : w1.heap = w.heap := by rcases hc2 with rfl | rfl <;> rfl
  obtain ⟨ho1, ho2⟩ := how w1 hheap
  refine ⟨g, w1, hc4 _ _ _ rfl, hc2, ?_⟩
  obtain ⟨i, hi, hb2⟩ := ob_eq_some.1 hb
  obtain rfl := Option.some.inj hb2
  have hti : ∀ w : World, (typeInfo elem).run P w = .ok i w := fun w => by simp [typeInfo, hi]
  have h1 : ¬ (l + n ≤ c) := by omega
  have hmax : IntKind.i64.max = 9223372036854775807 := by decide
  have h2 : decide (((l + n : Nat) : Int) > IntKind.i64.max) = false := decide_eq_false (by rw [hmax]; omega)
  have h3 : ¬ (Builtin.nextslicecap (l + n) c * i.bytes > 2 ^ 48) := by
    have := nextslicecap_le (need := l + n) (old := c) hlt
    have h4 : Builtin.nextslicecap (l + n) c * i.bytes ≤ 2 * (l + n) * i.bytes := Nat.mul_le_mul_right _ this
    have h5 : (2 : Nat) ^ 48 = 281474976710656 := by decide
    rw [h5]; omega
  unfold Builtin.append_
  simp only [ht0, ht1, List.getElem?_toArray, List.getElem?_cons_zero, List.getElem?_cons_succ, Sem.run_bind, under_run hu, sz_run hs, Result.andThen, under_run hx, Sem.run_pure, hz, Bool.false_eq_true, if_false, hlen, h1, Bool.not_false, if_true, hti]
  have h2' : ¬ (((l + n : Nat) : Int) > IntKind.i64.max) := by rw [hmax]; omega
  simp only [h2', false_and, if_false, h3, Sem.run_bind, Sem.run_pure, Result.andThen, hti, hc1, run_askRoom, ho1, ho2, hzw]
  simp [newRow, hheap]

/-- Another number for a block whose former ones are dead. -/
theorem Sim.alias {n0 : Nat} {ρ : Rho} {H : AH} {w : World} (h : HR P n0 ρ H w) {b : Pa} {l : Loc} (hb : ρ b = some l) (hdead : ∀ b' l', ρ b' = some l' → l'.c = l.c → H.get b' = some .dead) {x : AB} {s : Nat} {o : Obj} (ho : w.heap[l.c]? = some o) (hbr : BR P ρ x ⟨l.c, s, l.n⟩ o) :
    Sim P n0 ρ H w (ρ.add H.nx ⟨l.c, s, l.n⟩) (H.new x) w := by
  have hfr : ρ H.nx = none := h.fresh _ (Nat.le_refl _)
  have hle : ρ.le (ρ.add H.nx ⟨l.c, s, l.n⟩) := Rho.le_add hfr
  have get : ∀ b', b' ≠ H.nx → (H.new x).get b' = H.get b' := fun b' hne => by rw [AH.get_new, if_neg hne]
  refine ⟨hle, ⟨⟨fun b1 b2 l1 l2 h1 h2 hc d1 d2 => ?_, fun b1 l1 h1 => ?_⟩, fun b1 h1 => ?_, fun b1 h1 => by
      have h1 := h1; rw [AH.nx_new] at h1
      rw [AH.get_new, if_neg (fun e => by rw [e] at h1; omega)]; exact h.top b1 (by omega)⟩, by rw [AH.nx_new]; omega, fun b1 hlt hnone => ?_, fun _ _ _ => rfl, fun b1 l1 h1 => ?_, Nat.le_refl _, rfl, rfl, rfl⟩
  · by_cases e1 : b1 = H.nx <;> by_cases e2 : b2 = H.nx
    · rw [e1, e2]
    · simp only [Rho.add, e1, if_true, Option.some.injEq] at h1
      simp only [Rho.add, e2, if_false] at h2
      subst h1
      rw [get _ e2] at d2
      exact absurd (hdead _ _ h2 hc.symm) d2
    · simp only [Rho.add, e2, if_true, Option.some.injEq] at h2
      simp only [Rho.add, e1, if_false] at h1
      subst h2
      rw [get _ e1] at d1
      exact absurd (hdead _ _ h1 hc) d1
    · simp only [Rho.add, e1, e2, if_false] at h1 h2
      rw [get _ e1] at d1
      rw [get _ e2] at d2
      exact h.inj _ _ _ _ h1 h2 hc d1 d2
  · by_cases e1 : b1 = H.nx
    · simp only [Rho.add, e1, if_true, Option.some.injEq] at h1
      subst h1
      exact ⟨(h.blk _ _ hb).1, o, ho, fun y hy => by rw [e1, AH.get_new, if_pos rfl] at hy; cases hy; exact hbr.mono hle⟩
    · simp only [Rho.add, e1, if_false] at h1
      obtain ⟨q1, o', q3, q4⟩ := h.blk b1 l1 h1
      exact ⟨q1, o', q3, fun y hy => by rw [get _ e1] at hy; exact (q4 y hy).mono hle⟩
  · rw [AH.nx_new] at h1
    have : b1 ≠ H.nx := fun e => by rw [e] at h1; omega
    simp only [Rho.add, this, if_false]
    exact h.fresh b1 (by omega)
  · have e : b1 ≠ H.nx := fun e => by rw [e] at hlt; omega
    exact ⟨by simp only [Rho.add, e, if_false]; exact hnone, get _ e⟩
  · by_cases e : b1 = H.nx
    · simp only [Rho.add, e, if_true, Option.some.injEq] at h1; subst h1; exact .inr ⟨b, l, hb, rfl⟩
    · simp only [Rho.add, e, if_false] at h1; exact .inr ⟨b1, l1, h1, rfl⟩
/-- A block that nobody names any more. -/
theorem Sim.kill {n0 : Nat} {ρ : Rho} {H : AH} {w : World} (h : HR P n0 ρ H w) {b : Pa} {l : Loc} (hb : ρ b = some l) (hd : H.get b ≠ some .dead) : Sim P n0 ρ H w ρ (H.set b .dead) w := by
  obtain ⟨_, o, ho, _⟩ := h.blk b l hb
  exact Sim.turn h hb hd ho rfl (fun _ _ => rfl) rfl rfl rfl trivial
theorem zeroCells_size (z : Array Value) (n : Nat) : (Builtin.zeroCells z n).size = n * z.size := by simp [Builtin.zeroCells]
theorem RowR_list {ρ : Rho} {cs : List AV} {vs : List Value} {arr : Array Value} {s : Nat} (h : VRs ρ cs vs) (h1 : ∀ v ∈ vs, v.oneCell' = true) (hg : ∀ i, i < vs.length → arr[s + i]? = vs[i]?) : RowR ρ cs s arr := fun i a hi => by
  obtain ⟨v, h2, h3⟩ := VRs_get h i a hi
  have hlt : i < vs.length := (List.getElem?_eq_some_iff.1 h2).1
  exact ⟨v, by rw [hg i hlt, h2], h3, h1 v (List.mem_of_getElem? h2)⟩
theorem app_sound {st xt elem ty : TypeId} {d : TypeDesc} {ts : Array TypeId} {zs : List AV} {size bytes : Nat} (ht0 : ts[0]? = some st) (ht1 : ts[1]? = some xt) (hu : P.underlying st = some (.slice elem)) (hx : P.underlying xt = some d) (hd : ∀ k, d ≠ .int k) (hz : zeros P elem = some zs) (hs : sz P elem = some size) (hb : bytesOfT P elem = some bytes)
    {n0 : Nat} {ρ : Rho} {H H' : AH} {w : World} (hr : HR P n0 ρ H w) (hn : n0 ≤ w.heap.size) {S : AS} {s x : Opd} {v : AV} {vs vx : Value} (hvs : VR ρ (s S) vs) (hvx : VR ρ (x S) vx)
    (h : appF size bytes s x S H = some (v, H')) : ActR P n0 ρ H w ((Builtin.append_ ts ty #[vs, vx]).run P w) v H' := by
  obtain ⟨n, hlen, h⟩ := ob_eq_some.1 h
  obtain ⟨new, hnew, h⟩ := ob_eq_some.1 h
  have hlen' := lenOf_sound (P := P) hvx hlen w
  obtain ⟨us, hus, hus2, hus3, hus4⟩ := firstA_all hr.toHQ hvx hnew (fun m hm => by rw [hlen] at hm; obtain rfl := Option.some.inj hm; exact Nat.le_refl _)
  obtain ⟨z, m, hz1, hz2, hz3, hz4, hz5, hz6⟩ := zeros_run hz w
  rw [hs, Option.some.injEq] at hz2
  subst hz2
  have hzw : ∀ w', (zeroValue elem).run P w' = .ok z w' := fun w' => by
    obtain ⟨z', _, hz1', _⟩ := zeros_run hz w'
    obtain ⟨z0, h1, _⟩ := ob_eq_some.1 hz
    obtain ⟨i, h2, h3⟩ := ob_eq_some.1 h1
    obtain ⟨q, h4, _⟩ := ob_eq_some.1 h3
    have e1 : ∀ w, (zeroValue elem).run P w = .ok q w := fun w => by simp [zeroValue, typeInfo, h2, h4]
    have := (e1 w).symm.trans hz1
    obtain ⟨rfl, _⟩ := Result.ok.inj this
    exact e1 w'
  have hnot : ∀ {need}, big need bytes = false → need ≤ 1099511627776 ∧ 2 * need * bytes ≤ 281474976710656 := fun {need} hbg => by
    unfold big at hbg
    rw [nblt, nblt] at hbg
    simp only [Bool.or_eq_false_iff, decide_eq_false_iff_not] at hbg
    have h1 := hbg.1
    have h2 : ¬ 281474976710656 < 2 * need * bytes := hbg.2
    omega
  -- a new block
  have laid : ∀ {H0 : AH} {w1 : World} {olds : List Value} {old : List AV} {need g : Nat} {cl : Bool}, HR P n0 ρ H0 w1 → w1.heap = w.heap → Sim P n0 ρ H w ρ H0 w1 → VRs ρ old olds → (∀ v ∈ olds, v.oneCell' = true) → olds.length + us.length = need * size → need ≤ g →
      (cl = true → True) → Sim P n0 ρ H w (ρ.add H0.nx ⟨w1.heap.size, 0, (olds.toArray ++ us.toArray ++ Builtin.zeroCells z.cells (g - need)).size⟩) (H0.new (.cells (catL old new) cl)) (w1.alloc (.cells (olds.toArray ++ us.toArray ++ Builtin.zeroCells z.cells (g - need)) elem)) ∧
        VR (ρ.add H0.nx ⟨w1.heap.size, 0, (olds.toArray ++ us.toArray ++ Builtin.zeroCells z.cells (g - need)).size⟩) (.slice H0.nx 0 need need (some size)) (.slice (some ⟨w1.heap.size, 0, none⟩) need g) := by
    intro H0 w1 olds old need g cl hr0 hw1 hsim ho ho1 hol hg _
    have hsz : (olds.toArray ++ us.toArray ++ Builtin.zeroCells z.cells (g - need)).size = g * size := by
      simp only [Array.size_append, List.size_toArray, zeroCells_size, hz3]
      rw [hol, ← Nat.add_mul]; congr 1; omega
    refine ⟨hsim.trans (Sim.lay hr0 (by rw [hw1]; exact hn) ?_), ⟨⟨w1.heap.size, 0, (olds.toArray ++ us.toArray ++ Builtin.zeroCells z.cells (g - need)).size⟩, g, by simp [Rho.add], rfl, hg, (fun h => by cases h), fun q hq => ?_⟩⟩
    · refine ⟨_, elem, (0, 0), rfl, rfl, ?_, .inl rfl, fun _ => rfl⟩
      rw [catL_eq]
      refine RowR_list (VRs_append ho hus2) (fun v hv => ?_) (fun i hi => ?_)
      · rcases List.mem_append.1 hv with h | h
        · exact ho1 v h
        · exact hus3 v h
      · simp only [Nat.zero_add]
        rw [Array.getElem?_append_left (by simpa using hi), List.append_toArray]
        simp
    · obtain rfl := Option.some.inj hq
      rw [hsz]
      show 0 + 0 + g * size ≤ g * size
      omega
  have dr : ∀ {w1 : World}, (w1 = w ∨ w1 = { w with drawn := w.drawn + 1 }) → HR P n0 ρ H w1 ∧ w1.heap = w.heap ∧ Sim P n0 ρ H w ρ H w1 := fun {w1} h => by
    rcases h with rfl | rfl
    · exact ⟨hr, rfl, Sim.refl hr⟩
    · exact ⟨hr.drew, rfl, Sim.drew hr⟩
  unfold appG at h
  generalize hX : s S = X at *
  cases X with
  | nilSlice =>
    simp only [VR] at hvs
    subst hvs
    by_cases h0 : n = 0
    · subst h0
      simp only [nbeq, decide_true, cond_true, Option.some.injEq, Prod.mk.injEq] at h
      obtain ⟨rfl, rfl⟩ := h
      exact ⟨.slice none 0 0, w, ρ, append_in ht0 ht1 hu hx hd hs hlen' (hus w rfl) (base := none) (by omega) rfl, Sim.refl hr, rfl⟩
    · simp only [nbeq, decide_eq_false h0, cond_false] at h
      obtain ⟨hbg, h⟩ := cond_none h
      simp only [Option.some.injEq, Prod.mk.injEq] at h
      obtain ⟨rfl, rfl⟩ := h
      have hold : ∀ w' : World, (Builtin.firstCells size 0 (.slice none 0 0)).run P w' = .ok ([] : List Value).toArray w' := fun w' => rfl
      obtain ⟨g, w1, hg, hw1, hrun⟩ := append_grow (l := 0) (c := 0) (ty := ty) ht0 ht1 hu hx hd hs hb hlen' (hus w rfl) (base := none) (olds := []) (hold w) (by omega) (by simpa using hnot hbg) hz1 hzw (fun w' hw' => ⟨hold w', hus w' hw'⟩)
      simp only [Nat.zero_add] at hg hrun
      obtain ⟨hr1, hh1, hs1⟩ := dr hw1
      obtain ⟨l1, l2⟩ := laid (H0 := H) (cl := true) (old := []) (olds := []) hr1 hh1 hs1 rfl (by simp) (by simpa using hus4) hg (fun _ => trivial)
      have e : catL [] new = new := rfl
      rw [e] at l1
      rw [← hh1] at hrun
      exact ⟨_, _, _, hrun, l1, l2⟩
  | slice b off l c op =>
    simp only [VR] at hvs
    obtain ⟨lc, cap', hbb, rfl, hcap, hop, hlim⟩ := hvs
    have hvs0 : VR ρ (.slice b off l c op) (.slice (some ⟨lc.c, lc.s + off, none⟩) l cap') := ⟨lc, cap', hbb, rfl, hcap, hop, hlim⟩
    simp only at h
    cases hfit : Nat.ble (Nat.add l n) c with
    | true =>
      rw [hfit] at h
      simp only [cond_true] at h
      have hle : l + n ≤ c := Nat.le_of_ble_eq_true hfit
      by_cases h0 : n = 0
      · subst h0
        simp only [nbeq, decide_true, cond_true, Option.some.injEq, Prod.mk.injEq] at h
        obtain ⟨rfl, rfl⟩ := h
        have : us = [] := List.eq_nil_of_length_eq_zero (by simpa using hus4)
        subst this
        refine ⟨_, w, ρ, append_in ht0 ht1 hu hx hd hs hlen' (hus w rfl) (base := some _) (c := cap') (l := l) (by omega) rfl, Sim.refl hr, hvs0⟩
      · simp only [nbeq, decide_eq_false h0, cond_false] at h
        obtain ⟨H2, hw, h⟩ := ob_eq_some.1 h
        simp only [Option.some.injEq, Prod.mk.injEq] at h
        obtain ⟨rfl, rfl⟩ := h
        obtain ⟨w', h5, h6⟩ := hr.write (P := P) hbb hw hus2 hus3
        refine ⟨_, w', ρ, append_in ht0 ht1 hu hx hd hs hlen' (hus w rfl) (base := some ⟨lc.c, lc.s + off, none⟩) (c := cap') (l := l) (by omega) ?_, h6, ⟨lc, cap', hbb, rfl, hcap, hop, hlim⟩⟩
        show (storeCells ((⟨lc.c, lc.s + off, none⟩ : Addr).add (l * size)) us).run P w = _
        rw [addr_add]
        rw [show lc.s + off + l * size = lc.s + (Nat.add off (Nat.mul l size)) from Nat.add_assoc _ _ _]
        exact h5
    | false =>
      rw [hfit] at h
      simp only [cond_false] at h
      have hgt : c < l + n := by
        rw [nble, decide_eq_false_iff_not] at hfit
        have : ¬ (l + n ≤ c) := hfit
        omega
      obtain ⟨hbg, h⟩ := cond_none h
      obtain ⟨old, hold, h⟩ := ob_eq_some.1 h
      obtain ⟨olds, hol1, hol2, hol3, hol4⟩ := firstA_all hr.toHQ hvs0 hold (fun m hm => by obtain rfl := Option.some.inj hm; exact Nat.le_refl _)
      have hsum : olds.length + us.length = (l + n) * size := by rw [hol4, hus4, Nat.add_mul]
      cases op with
      | none =>
        simp only [Option.some.injEq, Prod.mk.injEq] at h
        obtain ⟨rfl, rfl⟩ := h
        have := hop rfl
        subst this
        obtain ⟨g, w1, hg, hw1, hrun⟩ := append_grow (ty := ty) ht0 ht1 hu hx hd hs hb hlen' (hus w rfl) (base := some ⟨lc.c, lc.s + off, none⟩) (hol1 w rfl) hgt (hnot hbg) hz1 hzw (fun w' hw' => ⟨hol1 w' hw', hus w' hw'⟩)
        obtain ⟨hr1, hh1, hs1⟩ := dr hw1
        obtain ⟨l1, l2⟩ := laid (H0 := H) (cl := true) hr1 hh1 hs1 hol2 hol3 hsum hg (fun _ => trivial)
        rw [← hh1] at hrun
        exact ⟨_, _, _, hrun, l1, l2⟩
      | some q =>
        simp only at h
        obtain ⟨hq, h⟩ := cond_some h
        rw [nbeq, decide_eq_true_eq] at hq
        subst hq
        split at h
        · rename_i cs cl hget
          simp only [Option.some.injEq, Prod.mk.injEq] at h
          obtain ⟨rfl, rfl⟩ := h
          have hlive : H.get b ≠ some .dead := by rw [hget]; simp
          by_cases hroom : l + n ≤ cap'
          · -- in place
            obtain ⟨arr, el, fz, hw, hasz, hrow, hf, hcl⟩ := hr.cellsOf hbb hget
            have hlim' := hlim q rfl
            have hbound : lc.s + off + l * q + us.length ≤ arr.size := by
              rw [hus4, hasz]
              have : (l + n) * q ≤ cap' * q := Nat.mul_le_mul_right _ hroom
              rw [Nat.add_mul] at this
              omega
            obtain ⟨w', g1, g2, g3, g4, g5, g6, g7⟩ := run_storeRow (P := P) lc.c (lc.s + off + l * q) us 0 arr w hw (by simpa using hbound) hf hus3
            have s1 : Sim P n0 ρ H w ρ (H.set b .dead) w' := Sim.turn hr hbb hlive g2 g3 g4 g5 g6 g7 trivial
            have s2 : Sim P n0 ρ (H.set b .dead) w' (ρ.add (H.set b .dead).nx ⟨lc.c, lc.s + off, lc.n⟩) ((H.set b .dead).new (.cells (catL old new) cl)) w' := by
              refine Sim.alias s1.hr hbb (fun b' l' hb' hc' => ?_) g2 ⟨_, el, fz, rfl, by rw [ov_size]; exact hasz, ?_, by rw [ov_size]; exact hf, hcl⟩
              · rw [AH.get_set]
                by_cases e : b' = b
                · rw [if_pos e]
                · rw [if_neg e]
                  by_cases hd' : H.get b' = some .dead
                  · exact hd'
                  · exact absurd (hr.inj _ _ _ _ hb' hbb hc' hd' hlive) e
              · rw [catL_eq]
                have hold2 : ∀ i, i < olds.length → arr[lc.s + off + i]? = olds[i]? := fun i hi => by
                  by_cases hl0 : l = 0
                  · exfalso; rw [hol4, hl0, Nat.zero_mul] at hi; omega
                  · have hh : (bif Nat.beq l 0 then some [] else onBlk (fun cs _ => takeN (dropL cs off) (Nat.mul l q)) none (H.get b)) = some old := hold
                    rw [nbeq, decide_eq_false hl0] at hh
                    have hc := (hol1 w rfl)
                    have h9 : (Builtin.firstCells q l (.slice (some ⟨lc.c, lc.s + off, none⟩) l cap')).run P w = .ok olds.toArray w := hc
                    obtain ⟨cs0, cl0, hg0, hh⟩ := onBlk_some hh
                    obtain ⟨ks, k1, k2, k3, k4⟩ := hr.row hbb hg0 hh
                    have hld := run_loadCells_list (P := P) w ⟨lc.c, lc.s + off, none⟩ ks k4
                    rw [k1] at hld
                    have h10 : (loadCells ⟨lc.c, lc.s + off, none⟩ (l * q)).run P w = .ok olds.toArray w := h9
                    have e2 : ks = olds := by
                      have := (Result.ok.inj (hld.symm.trans h10)).1
                      simpa using this
                    subst e2
                    have h11 := k4 i ks[i] (List.getElem?_eq_getElem hi)
                    rw [addr_add] at h11
                    rw [List.getElem?_eq_getElem hi, ← h11]
                    simp [World.cell?, hw]
                refine RowR_list (VRs_append hol2 hus2) (fun v hv => ?_) (fun i hi => ?_)
                · rcases List.mem_append.1 hv with h | h
                  · exact hol3 v h
                  · exact hus3 v h
                · dsimp only
                  rw [ov_get _ _ _ _ (by simpa using hbound)]
                  by_cases hin : i < olds.length
                  · rw [if_neg (by omega), List.getElem?_append_left hin]
                    exact hold2 i hin
                  · rw [List.getElem?_append_right (by omega), if_pos (by simp at hi; omega)]
                    congr 1
                    omega
            refine ⟨.slice (some ⟨lc.c, lc.s + off, none⟩) (l + n) cap', w', _, append_in ht0 ht1 hu hx hd hs hlen' (hus w rfl) (base := some ⟨lc.c, lc.s + off, none⟩) (c := cap') (l := l) hroom ?_, s1.trans s2, ⟨⟨lc.c, lc.s + off, lc.n⟩, cap', by simp [Rho.add, AH.nx_set], rfl, hroom, (fun h => by cases h), fun q' hq' => ?_⟩⟩
            · show (storeCells ((⟨lc.c, lc.s + off, none⟩ : Addr).add (l * q)) us).run P w = _
              rw [addr_add]; exact g1
            · obtain rfl := Option.some.inj hq'
              show lc.s + off + 0 + cap' * q ≤ lc.n
              omega
          · obtain ⟨g, w1, hg, hw1, hrun⟩ := append_grow (ty := ty) ht0 ht1 hu hx hd hs hb hlen' (hus w rfl) (base := some ⟨lc.c, lc.s + off, none⟩) (hol1 w rfl) (by omega) (hnot hbg) hz1 hzw (fun w' hw' => ⟨hol1 w' hw', hus w' hw'⟩)
            obtain ⟨hr1, hh1, hs1⟩ := dr hw1
            have hk := Sim.kill hr1 hbb hlive
            obtain ⟨l1, l2⟩ := laid (H0 := H.set b .dead) (cl := cl) hk.hr hh1 (hs1.trans hk) hol2 hol3 hsum hg (fun _ => trivial)
            rw [← hh1] at hrun
            exact ⟨_, _, _, hrun, l1, l2⟩
        · cases h
  | _ => cases h
end Go.Ab
