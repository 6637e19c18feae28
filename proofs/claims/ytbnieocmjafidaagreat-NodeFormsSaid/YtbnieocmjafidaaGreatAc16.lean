/- The abstract machine, 16: iterations over maps; appends, copies. -/
import Derived.Test.YtbnieocmjafidaaGreatAc15
import Derived.Laws.Append
set_option linter.unusedVariables false
set_option linter.unusedSimpArgs false
namespace Go.Ab
variable {P : Program}

/-! ### Iterations -/
theorem HQ.iterOf {n0 : Nat} {ρ : Rho} {H : AH} {w : World} (hr : HQ P n0 ρ H w) {b : Pa} {l : Loc} {m : Option Pa} {since : Nat} {seen : List Nat} {st : Nat} (hb : ρ b = some l) (hx : H.get b = some (.iter m since seen st)) :
    l.s = 0 ∧ ∃ m', w.heap[l.c]? = some (.mapIter m' since seen.toArray st) ∧ (match (generalizing := false) m with | none => m' = none | some r => ∃ l, ρ r = some l ∧ m' = some l.c) := by
  obtain ⟨_, o, h2, h3⟩ := hr.blk b l hb
  obtain ⟨h0, m', rfl, h4⟩ := h3 _ hx
  exact ⟨h0, m', h2, h4⟩
theorem run_getObj_iter {w : World} {r : Nat} {m since seen st} (h : w.heap[r]? = some (.mapIter m since seen st)) : (getObj r).run P w = .ok (.mapIter m since seen st) w := by simp [getObj, Sem.run, h]
theorem run_setObj_iter {w : World} {r : Nat} {m since seen st} (o : Obj) (h : w.heap[r]? = some (.mapIter m since seen st)) : (setObj r o).run P w = .ok () (w.putObj r o) := by simp [setObj, Sem.run, h, World.putObj]
theorem EntsR_filter {ρ : Rho} (p : Nat → Bool) : ∀ {es : Ents} {l : List MapEntry}, EntsR ρ es l → EntsR ρ (es.filter fun e => p e.2.2) (l.filter fun x => p x.born)
  | [], l, h => by simp only [EntsR] at h; subst h; rfl
  | a :: es, l, h => by
    simp only [EntsR] at h
    obtain ⟨x, l', rfl, ⟨h1, h2, h3⟩, h4⟩ := h
    simp only [List.filter_cons, h3]
    cases p a.2.2 with
    | true => exact ⟨x, _, rfl, ⟨h1, h2, h3⟩, EntsR_filter p h4⟩
    | false => exact EntsR_filter p h4
theorem EntsR_all {ρ : Rho} (p : Nat → Bool) : ∀ {es : Ents} {l : List MapEntry}, EntsR ρ es l → (l.all fun x => p x.born) = es.all fun e => p e.2.2
  | [], l, h => by simp only [EntsR] at h; subst h; rfl
  | a :: es, l, h => by
    simp only [EntsR] at h
    obtain ⟨x, l', rfl, ⟨h1, h2, h3⟩, h4⟩ := h
    simp only [List.all_cons, h3, EntsR_all p h4]
theorem EntsR_find {ρ : Rho} (p : Nat → Bool) : ∀ {es : Ents} {l : List MapEntry}, EntsR ρ es l → ∀ e, (es.find? fun e => p e.2.2) = some e → ∃ x, (l.find? fun x => p x.born) = some x ∧ EntR ρ e x
  | [], l, h, e, he => by simp at he
  | a :: es, l, h, e, he => by
    simp only [EntsR] at h
    obtain ⟨x, l', rfl, ⟨h1, h2, h3⟩, h4⟩ := h
    simp only [List.find?_cons, h3] at he ⊢
    cases hp : p a.2.2 with
    | true =>
      rw [hp] at he
      obtain rfl := Option.some.inj he
      exact ⟨x, rfl, h1, h2, h3⟩
    | false =>
      rw [hp] at he
      exact EntsR_find p h4 e he
theorem range_sound {t key elem : TypeId} (hu : P.underlying t = some (.map key elem)) {n0 : Nat} {ρ : Rho} {H H' : AH} {w : World} (hr : HR P n0 ρ H w) (hn : n0 ≤ w.heap.size) {S : AS} {x : Opd} {v : AV} {vx : Value} (hx : VR ρ (x S) vx)
    (h : rangeF x S H = some (v, H')) : ActR P n0 ρ H w ((Instr.range t vx).run P w) v H' := by
  unfold rangeF at h
  split at h
  · rename_i hX
    rw [hX] at hx
    simp only [VR] at hx
    subst hx
    simp only [Option.some.injEq, Prod.mk.injEq] at h
    obtain ⟨rfl, rfl⟩ := h
    refine ⟨.pointer (some ⟨w.heap.size, 0, none⟩), _, _, ?_, Sim.lay (n := 0) (o := .mapIter none 0 #[] 0) hr hn ⟨rfl, none, rfl, rfl⟩, ⟨⟨w.heap.size, 0, 0⟩, by simp [Rho.add], rfl⟩⟩
    simp [Instr.range, Sem.run_bind, under_run hu, Result.andThen]
  · rename_i m hX
    rw [hX] at hx
    simp only [VR] at hx
    obtain ⟨l, hl, rfl⟩ := hx
    obtain ⟨es, c, hg, h⟩ := onMap_some h
    simp only [Option.some.injEq, Prod.mk.injEq] at h
    obtain ⟨rfl, rfl⟩ := h
    obtain ⟨es', he1, he2⟩ := hr.mapOf hl hg
    have hfr : ρ H.nx = none := hr.fresh _ (Nat.le_refl _)
    refine ⟨.pointer (some ⟨w.heap.size, 0, none⟩), _, _, ?_, Sim.lay (n := 0) (o := .mapIter (some l.c) c #[] c) hr hn ?_, ⟨⟨w.heap.size, 0, 0⟩, by simp [Rho.add], rfl⟩⟩
    · simp [Instr.range, Sem.run_bind, under_run hu, Result.andThen, run_getObj_map he1]
    · exact ⟨rfl, some l.c, rfl, l, hl, rfl⟩
  · cases h
theorem entry_sound {n0 : Nat} {ρ : Rho} {H : AH} {w : World} (hr : HQ P n0 ρ H w) {S : AS} {x : Opd} {v : AV} {vx : Value} (hx : VR ρ (x S) vx)
    (h : entryF x S H = some v) : ∃ v', (Instr.entry vx).run P w = .ok v' w ∧ VR ρ v v' := by
  unfold entryF at h
  split at h
  · rename_i r off hX
    obtain ⟨h0, h⟩ := cond_none h
    rw [nblt, decide_eq_false_iff_not] at h0
    split at h
    · rename_i m since seen stepped hg
      rw [hX] at hx
      simp only [VR] at hx
      obtain ⟨l, hl, rfl⟩ := hx
      obtain ⟨hs, m', hi, lm, hlm, rfl⟩ := hr.iterOf hl hg
      obtain ⟨es, c, hgm, h⟩ := onMap_some h
      obtain ⟨es', he1, he2⟩ := hr.mapOf hlm hgm
      split at h
      · rename_i stamp hst
        split at h
        · rename_i hc
          split at h
          · rename_i e he
            obtain rfl := Option.some.inj h
            have hfind := EntsR_find (fun b => Nat.beq b stamp) he2 e he
            obtain ⟨y, hy1, hy2, hy3, _⟩ := hfind
            have hc' : c = stepped := Nat.eq_of_beq_eq_true hc
            subst hc'
            have hz : l.s + off = 0 := by omega
            refine ⟨.tuple #[y.key, y.val], ?_, #[y.key, y.val], rfl, _, _, rfl, hy2, _, _, rfl, hy3, rfl⟩
            have hback : seen.toArray.back? = some stamp := by simpa using hst
            have hf : es'.find? (fun z => z.born == stamp) = some y := by
              rw [← Array.find?_toList, ← hy1]; congr 1; funext z; rw [nbeq]; rfl
            simp only [hz]
            simp [Instr.entry, Sem.run_bind, Result.andThen, run_getObj_iter hi, hback, run_getObj_map he1, hf]
          · cases h
        · cases h
      · cases h
    · cases h
  · cases h
theorem choose_run (q : Question) (w : World) : ∃ k w', (choose q).run P w = .ok k w' ∧ (w' = w ∨ w' = { w with drawn := w.drawn + 1 }) ∧ (∀ n, q = .mapNext n → 0 < n → k < n) ∧ ∀ need c e, q = .appendCap need c e → need ≤ k := by
  simp only [choose, Sem.run]
  by_cases h : q.forced = true
  · rw [if_pos h]
    exact ⟨0, w, rfl, .inl rfl, fun n _ hn => hn, fun need c e hq => by subst hq; cases h⟩
  · rw [if_neg h]
    refine ⟨_, _, rfl, .inr rfl, fun n hq hn => ?_, fun need c e hq => ?_⟩
    · subst hq; exact Nat.mod_lt _ hn
    · subst hq; exact Nat.le_add_right _ _

theorem seen_contains (seen : List Nat) (b : Nat) : seen.toArray.contains b = seen.any (Nat.beq b ·) := by
  rw [Bool.eq_iff_iff]
  simp [nbeq]
/-- What an iteration may bring. -/
theorem next_sound {ty : TypeId} {n0 : Nat} {ρ : Rho} {H : AH} {w : World} (hr : HR P n0 ρ H w) {S : AS} {x : Opd} {ps : List (AV × AH)} {vx : Value} (hx : VR ρ (x S) vx)
    (h : nextF x S H = some ps) : ∃ p, p ∈ ps ∧ ActR P n0 ρ H w ((Instr.next vx false ty).run P w) p.1 p.2 := by
  unfold nextF at h
  split at h
  · rename_i r off hX
    obtain ⟨h0, h⟩ := cond_none h
    rw [nblt, decide_eq_false_iff_not] at h0
    rw [hX] at hx
    simp only [VR] at hx
    obtain ⟨l, hl, rfl⟩ := hx
    split at h
    · rename_i since seen last hg
      obtain rfl := Option.some.inj h
      obtain ⟨hs, m', hi, rfl⟩ := hr.iterOf hl hg
      refine ⟨_, List.mem_singleton.2 rfl, .tuple #[.bool false], w, ρ, ?_, Sim.refl hr, #[.bool false], rfl, _, _, rfl, rfl, rfl⟩
      have hz : l.s + off = 0 := by omega
      simp only [hz]
      simp [Instr.next, Sem.run_bind, Result.andThen, run_getObj_iter hi]
    · rename_i m since seen last hg
      obtain ⟨es, c, hgm, h⟩ := onMap_some h
      obtain ⟨hs, m', hi, lm, hlm, rfl⟩ := hr.iterOf hl hg
      obtain ⟨es', he1, he2⟩ := hr.mapOf hlm hgm
      split at h
      · cases h
      · rename_i hcond
        obtain rfl := Option.some.inj h
        have hz : l.s + off = 0 := by omega
        have hlive : H.get r ≠ some .dead := by rw [hg]; simp
        -- the entries
        have hleft := EntsR_filter (fun b => !seen.any (Nat.beq b ·)) he2
        have hold := EntsR_filter (fun b => Nat.blt b since) hleft
        have hnew := EntsR_filter (fun b => Nat.ble since b) hleft
        have hall := EntsR_append hold hnew
        generalize hL : ((es.filter fun e => !seen.any (Nat.beq e.2.2 ·)).filter fun e => Nat.blt e.2.2 since) = old at *
        generalize hN : ((es.filter fun e => !seen.any (Nat.beq e.2.2 ·)).filter fun e => Nat.ble since e.2.2) = new at *
        have e0 : es'.filter (fun e => !seen.toArray.contains e.born) = (es'.toList.filter fun x => !seen.any (Nat.beq x.born ·)).toArray := by
          apply Array.toList_inj.1
          rw [Array.toList_filter]
          congr 1
          funext x
          rw [seen_contains]
        have e1 : (es'.toList.filter fun x => !seen.any (Nat.beq x.born ·)).toArray.filter (fun x => decide (x.born < since)) = ((es'.toList.filter fun x => !seen.any (Nat.beq x.born ·)).filter fun x => Nat.blt x.born since).toArray := by
          apply Array.toList_inj.1
          rw [Array.toList_filter]
          congr 1
          funext x
          rw [nblt]
        have e2 : (es'.toList.filter fun x => !seen.any (Nat.beq x.born ·)).toArray.filter (fun x => decide (x.born ≥ since)) = ((es'.toList.filter fun x => !seen.any (Nat.beq x.born ·)).filter fun x => Nat.ble since x.born).toArray := by
          apply Array.toList_inj.1
          rw [Array.toList_filter]
          congr 1
          funext x
          rw [nble]
        have e3 : (!seen.toArray.isEmpty && !es'.isEmpty && es'.all fun e => decide (e.born ≥ last)) = false := by
          rw [← Bool.not_eq_true]
          intro hh
          apply hcond
          rw [← hh]
          have a1 : seen.toArray.isEmpty = seen.isEmpty := by simp
          have a2 : es'.isEmpty = es.isEmpty := by rw [← EntsR_empty he2, isNilL_eq]
          have a3 : (es'.all fun e => decide (e.born ≥ last)) = es.all (fun e => Nat.ble last e.2.2) := by
            rw [← EntsR_all (fun b => Nat.ble last b) he2, ← Array.all_toList]
            congr 1
            funext x
            rw [nble]
          rw [a1, a2, a3]
        generalize hL' : ((es'.toList.filter fun x => !seen.any (Nat.beq x.born ·)).filter fun x => Nat.blt x.born since) = old' at *
        generalize hN' : ((es'.toList.filter fun x => !seen.any (Nat.beq x.born ·)).filter fun x => Nat.ble since x.born) = new' at *
        have hlo := EntsR_length hold
        have hle : old'.isEmpty = old.isEmpty := by cases old <;> cases old' <;> first | rfl | (simp at hlo; done)
        obtain ⟨k, w1, hk1, hk2, hk3, _⟩ := choose_run (P := P) (.mapNext ((if old'.toArray.isEmpty then (#[none] : Array (Option MapEntry)) else #[]) ++ (old'.toArray ++ new'.toArray).map some).size) w
        have hrun : (Instr.next (.pointer (some ⟨l.c, l.s + off, none⟩)) false ty).run P w = (match ((if old'.toArray.isEmpty then (#[none] : Array (Option MapEntry)) else #[]) ++ (old'.toArray ++ new'.toArray).map some)[k]? with
            | some (some e) => (do
              setObj l.c (.mapIter (some lm.c) since (seen.toArray.push e.born) c)
              pure (.tuple #[.bool true, e.key, e.val]) : Sem Value)
            | some none => pure (.tuple #[.bool false])
            | none => stuck "Next: no such candidate").run P w1 := by
          simp only [hz]
          simp only [Instr.next, Sem.run_bind, Result.andThen, run_getObj_iter hi, run_getObj_map he1, e3, Bool.false_eq_true, if_false, e0, e1, e2, Sem.run_pure]
          rw [hk1]
          rfl
        have hr1 : HR P n0 ρ H w1 ∧ Sim P n0 ρ H w ρ H w1 ∧ w1.heap = w.heap := by
          rcases hk2 with rfl | rfl
          · exact ⟨hr, Sim.refl hr, rfl⟩
          · exact ⟨hr.drew, Sim.drew hr, rfl⟩
        have over : (∃ p, p ∈ (if old.isEmpty then [((.tuple [.bool false] : AV), H)] else []) ++ (old ++ new).map (fun e => ((.tuple [.bool true, e.1, e.2.1] : AV), H.set r (.iter (some m) since (seen ++ [e.2.2]) c))) ∧ p = (.tuple [.bool false], H)) → ∀ res, res = (.ok (.tuple #[.bool false]) w1 : Result Value) →
            ∃ p, p ∈ (if old.isEmpty then [((.tuple [.bool false] : AV), H)] else []) ++ (old ++ new).map (fun e => ((.tuple [.bool true, e.1, e.2.1] : AV), H.set r (.iter (some m) since (seen ++ [e.2.2]) c))) ∧ ActR P n0 ρ H w res p.1 p.2 := fun ⟨p, hp, he⟩ res hres => by
          subst he
          exact ⟨_, hp, _, w1, ρ, hres, hr1.2.1, #[.bool false], rfl, _, _, rfl, rfl, rfl⟩
        have step : ∀ e y, e ∈ old ++ new → EntR ρ e y → ∀ res, res = (do
              setObj l.c (.mapIter (some lm.c) since (seen.toArray.push y.born) c)
              pure (.tuple #[.bool true, y.key, y.val]) : Sem Value).run P w1 →
            ∃ p, p ∈ (if old.isEmpty then [((.tuple [.bool false] : AV), H)] else []) ++ (old ++ new).map (fun e => ((.tuple [.bool true, e.1, e.2.1] : AV), H.set r (.iter (some m) since (seen ++ [e.2.2]) c))) ∧ ActR P n0 ρ H w res p.1 p.2 := fun e y hmem hey res hres => by
          obtain ⟨k1, k2, k3⟩ := hey
          have hi1 : w1.heap[l.c]? = some (.mapIter (some lm.c) since seen.toArray last) := by rw [hr1.2.2]; exact hi
          refine ⟨_, List.mem_append_right _ (List.mem_map.2 ⟨e, hmem, rfl⟩), .tuple #[.bool true, y.key, y.val], w1.putObj l.c (.mapIter (some lm.c) since (seen.toArray.push y.born) c), ρ, ?_, hr1.2.1.trans (Sim.put hr1.1 hl hlive hi1 ⟨hs, some lm.c, ?_, lm, hlm, rfl⟩), #[.bool true, y.key, y.val], rfl, _, _, rfl, rfl, _, _, rfl, k1, _, _, rfl, k2, rfl⟩
          · rw [hres]; simp [Sem.run_bind, run_setObj_iter _ hi1, Result.andThen]
          · rw [k3]; simp
        have hsz : old'.length + new'.length = old.length + new.length := by have := EntsR_length hnew; omega
        rw [hrun]
        by_cases hemp : old.isEmpty = true
        · have hold0 : old' = [] := by rw [hemp] at hle; simpa using hle
          have hold1 : old = [] := by simpa using hemp
          subst hold0 hold1
          simp only [List.nil_append] at *
          cases k with
          | zero =>
            refine over ⟨_, by simp, rfl⟩ _ ?_
            simp
          | succ k =>
            have hk : k < new'.length := by
              have := hk3 _ rfl (by simp)
              simp at this; omega
            have hy := List.getElem?_eq_getElem hk
            have hk' : k < new.length := by have := EntsR_length hnew; omega
            obtain ⟨y, hy1, hy2⟩ := EntsR_get hnew k _ (List.getElem?_eq_getElem hk')
            refine step _ y (by simp) hy2 _ ?_
            have : ((if ([] : List MapEntry).toArray.isEmpty then (#[none] : Array (Option MapEntry)) else #[]) ++ (([] : List MapEntry).toArray ++ new'.toArray).map some)[k + 1]? = some (some y) := by
              simp [hy1]
            rw [this]
        · have hne : old'.toArray.isEmpty = false := by
            have : old'.isEmpty = false := by rw [hle]; simpa using hemp
            simpa using this
          have hpos : 0 < old'.length := by
            cases old' with
            | nil => simp at hne
            | cons _ _ => simp
          have hk : k < (old' ++ new').length := by
            have := hk3 _ rfl (by simp [hne]; omega)
            simp [hne] at this; simp; omega
          have hk' : k < (old ++ new).length := by simp at hk ⊢; omega
          obtain ⟨y, hy1, hy2⟩ := EntsR_get hall k _ (List.getElem?_eq_getElem hk')
          refine step _ y (List.getElem_mem _) hy2 _ ?_
          have : ((if old'.toArray.isEmpty then (#[none] : Array (Option MapEntry)) else #[]) ++ (old'.toArray ++ new'.toArray).map some)[k]? = some (some y) := by
            rw [hne]
            simp only [Bool.false_eq_true, if_false, List.append_toArray, List.map_toArray, Array.empty_append, List.getElem?_toArray, List.nil_append, List.getElem?_map, hy1, Option.map_some]
          rw [this]
    · cases h
  · cases h
end Go.Ab
