/- The abstract machine, 14: keys and entries of maps. -/
import Derived.Test.YtbnieocmjafidaaGreatAc13
set_option linter.unusedVariables false
set_option linter.unusedSimpArgs false
namespace Go.Ab
variable {P : Program}

theorem bytes_beq' (a b : ByteArray) : (a == b) = true ↔ a = b := by
  obtain ⟨x⟩ := a
  obtain ⟨y⟩ := b
  constructor
  · intro h
    have e : x = y := by simpa using (show (x == y) = true from h)
    rw [e]
  · intro h
    cases h
    show (x == x) = true
    simp
/-- What a key function must be. -/
structure KeyOk (P : Program) (t : TypeId) (K : KeyF) : Prop where
  ok : ∀ {ρ : Rho} {empty : Bool} {k : AV} {vk : Value} (w : World), K.ok empty k = true → VR ρ k vk → (Instr.checkKey empty 10000 t vk).run P w = .ok () w
  find : ∀ {ρ : Rho} {k : AV} {vk : Value} {es : Ents} {es' : List MapEntry} {r : Option (Nat × AV)} (w : World) (i : Nat), VR ρ k vk → EntsR ρ es es' → findA K.same k es i = some r →
    ∃ r', (match Instr.findNow ((P.underlying t).getD .bool) vk es' i with | some r => (pure r : Sem (Option (Nat × Value))) | none => Instr.findAsking t vk es' i).run P w = .ok r' w ∧
      match r, r' with
      | none, none => True
      | some (j, v), some (j', v') => j = j' ∧ VR ρ v v' ∧ i ≤ j ∧ j - i < es.length
      | _, _ => False

theorem findKey_run {t : TypeId} {d : TypeDesc} (hu : P.underlying t = some d) (vk : Value) (es : List MapEntry) (w : World) :
    (Instr.findKey t vk es).run P w = (match Instr.findNow ((P.underlying t).getD .bool) vk es 0 with | some r => (pure r : Sem (Option (Nat × Value))) | none => Instr.findAsking t vk es 0).run P w := by
  unfold Instr.findKey
  simp only [Sem.run_bind, under_run hu, Result.andThen, hu, Option.getD_some]
  rfl
theorem findA_cons {same : AV → AV → Option Bool} {k : AV} {e : AV × AV × Nat} {es : Ents} {i : Nat} : findA same k (e :: es) i = ob (same k e.1) fun b => bif b then some (some (i, e.2.1)) else findA same k es (i + 1) := rfl
/-- Where each comparison is made at once. -/
theorem find_now {kind : TypeDesc} {same : AV → AV → Option Bool} (hs : ∀ {ρ : Rho} {x y : AV} {b : Bool} {vx vy : Value}, VR ρ x vx → VR ρ y vy → same x y = some b → Instr.sameNow kind vx vy = some b) {ρ : Rho} {k : AV} {vk : Value} (hk : VR ρ k vk) :
    ∀ {es : Ents} {es' : List MapEntry} {r : Option (Nat × AV)} (i : Nat), EntsR ρ es es' → findA same k es i = some r →
      ∃ r', Instr.findNow kind vk es' i = some r' ∧ match r, r' with
        | none, none => True
        | some (j, v), some (j', v') => j = j' ∧ VR ρ v v' ∧ i ≤ j ∧ j - i < es.length
        | _, _ => False
  | [], es', r, i, he, h => by
    simp only [EntsR] at he
    subst he
    obtain rfl := Option.some.inj (show some none = some r from h)
    exact ⟨none, rfl, trivial⟩
  | e :: es, es', r, i, he, h => by
    simp only [EntsR] at he
    obtain ⟨x, l', rfl, ⟨h1, h2, h3⟩, he⟩ := he
    rw [findA_cons] at h
    obtain ⟨b, hb, h⟩ := ob_eq_some.1 h
    have hn := hs hk h1 hb
    cases b with
    | true =>
      obtain rfl := Option.some.inj (show some (some (i, e.2.1)) = some r from h)
      exact ⟨some (i, x.val), by simp only [Instr.findNow, hn], rfl, h2, Nat.le_refl _, by simp⟩
    | false =>
      obtain ⟨r', h4, h5⟩ := find_now hs hk (i + 1) he h
      refine ⟨r', by simp only [Instr.findNow, hn]; exact h4, ?_⟩
      revert h5
      cases r with
      | none => cases r' with
        | none => exact id
        | some r' => exact id
      | some r => cases r' with
        | none => exact id
        | some r' => rintro ⟨a1, a2, a3, a4⟩; exact ⟨a1, a2, by omega, by simp only [List.length_cons]; omega⟩
/-- Where each comparison is ==. -/
theorem find_asking {t : TypeId} {same : AV → AV → Option Bool} (w : World) (hs : ∀ {ρ : Rho} {x y : AV} {b : Bool} {vx vy : Value}, VR ρ x vx → VR ρ y vy → same x y = some b → (Op.equal t vx vy).run P w = .ok b w) {ρ : Rho} {k : AV} {vk : Value} (hk : VR ρ k vk) :
    ∀ {es : Ents} {es' : List MapEntry} {r : Option (Nat × AV)} (i : Nat), EntsR ρ es es' → findA same k es i = some r →
      ∃ r', (Instr.findAsking t vk es' i).run P w = .ok r' w ∧ match r, r' with
        | none, none => True
        | some (j, v), some (j', v') => j = j' ∧ VR ρ v v' ∧ i ≤ j ∧ j - i < es.length
        | _, _ => False
  | [], es', r, i, he, h => by
    simp only [EntsR] at he
    subst he
    obtain rfl := Option.some.inj (show some none = some r from h)
    exact ⟨none, rfl, trivial⟩
  | e :: es, es', r, i, he, h => by
    simp only [EntsR] at he
    obtain ⟨x, l', rfl, ⟨h1, h2, h3⟩, he⟩ := he
    rw [findA_cons] at h
    obtain ⟨b, hb, h⟩ := ob_eq_some.1 h
    have hn := hs hk h1 hb
    cases b with
    | true =>
      obtain rfl := Option.some.inj (show some (some (i, e.2.1)) = some r from h)
      exact ⟨some (i, x.val), by simp [Instr.findAsking, Sem.run_bind, hn, Result.andThen], rfl, h2, Nat.le_refl _, by simp⟩
    | false =>
      obtain ⟨r', h4, h5⟩ := find_asking w hs hk (i + 1) he h
      refine ⟨r', by simp [Instr.findAsking, Sem.run_bind, hn, Result.andThen, h4], ?_⟩
      revert h5
      cases r with
      | none => cases r' with
        | none => exact id
        | some r' => exact id
      | some r => cases r' with
        | none => exact id
        | some r' => rintro ⟨a1, a2, a3, a4⟩; exact ⟨a1, a2, by omega, by simp only [List.length_cons]; omega⟩
theorem keyF_ok {t : TypeId} {K : KeyF} (h : keyF P t = some K) : KeyOk P t K := by
  obtain ⟨d, hu, h⟩ := ob_eq_some.1 h
  cases d <;> simp only at h <;> first | (cases h; done) | skip
  case int k =>
    obtain rfl := Option.some.inj h
    refine ⟨fun {ρ empty x vk} w hok hv => ?_, fun {ρ x vk es es' r} w i hk he hf => ?_⟩
    · cases x <;> first | (cases hok; done) | skip
      simp only [VR] at hv
      subst hv
      unfold Instr.checkKey
      simp only [Sem.run_bind, under_run hu, Result.andThen]
      rfl
    · obtain ⟨r', h1, h2⟩ := find_now (kind := .int k) (fun {ρ x y b vx vy} hx hy hb => by
        have hb : intSame x y = some b := hb
        unfold intSame at hb
        split at hb
        · split at hb
          · rename_i k1 a1 _ k2 a2
            obtain ⟨e1, e2⟩ := cond_some hb
            obtain rfl := Option.some.inj e2
            obtain rfl := kEq_iff e1
            simp only [VR] at hx hy
            subst hx hy
            simp only [Instr.sameNow, if_true, eqI_eq]
            rfl
          · cases hb
        · cases hb) hk i he hf
      refine ⟨r', ?_, h2⟩
      simp only [hu, Option.getD_some, h1]
      rfl
  case string =>
    obtain rfl := Option.some.inj h
    refine ⟨fun {ρ empty x vk} w hok hv => ?_, fun {ρ x vk es es' r} w i hk he hf => ?_⟩
    · cases x <;> first | (cases hok; done) | skip
      simp only [VR] at hv
      subst hv
      unfold Instr.checkKey
      simp only [Sem.run_bind, under_run hu, Result.andThen]
      rfl
    · obtain ⟨r', h1, h2⟩ := find_now (kind := .string) (fun {ρ x y b vx vy} hx hy hb => by
        obtain ⟨s, s', rfl, rfl, rfl⟩ := strEq_sound hx hy hb
        simp only [Instr.sameNow]
        congr 1
        exact Bool.eq_iff_iff.2 (by rw [bytes_beq']; simp)) hk i he hf
      refine ⟨r', ?_, h2⟩
      simp only [hu, Option.getD_some, h1]
      rfl
  case struct fs =>
    obtain rfl := Option.some.inj h
    refine ⟨fun {ρ empty x vk} w hok hv => ?_, fun {ρ x vk es es' r} w i hk he hf => ?_⟩
    · have hok : genOk P t empty x = true := hok
      unfold genOk at hok
      split at hok
      · rename_i c hc
        rw [conc_sound hc hv]
        obtain ⟨u, hu⟩ := Option.isSome_iff_exists.1 hok
        exact runPure_sound w _ _ hu
      · cases hok
    · obtain ⟨r', h1, h2⟩ := find_asking w (fun {ρ x y b vx vy} hx hy hb => genSame_sound hx hy hb w) hk i he hf
      refine ⟨r', ?_, h2⟩
      simp only [hu, Option.getD_some]
      cases es' with
      | nil => simpa [Instr.findNow, Instr.findAsking] using h1
      | cons e es' =>
        have : Instr.findNow (.struct fs) vk (e :: es') i = none := by simp [Instr.findNow, Instr.sameNow]
        rw [this]
        exact h1
theorem isNilL_eq {α : Type} (l : List α) : isNilL l = l.isEmpty := by cases l <;> rfl
theorem EntsR_empty {ρ : Rho} {es : Ents} {l : Array MapEntry} (h : EntsR ρ es l.toList) : isNilL es = l.isEmpty := by
  have := EntsR_length h
  rw [isNilL_eq]
  cases es with
  | nil => simp at this; simp [this]
  | cons e es =>
    have h2 : l.size ≠ 0 := by simp at this; omega
    simp [Array.isEmpty, h2]
theorem lookup_sound {t key elem : TypeId} (hu : P.underlying t = some (.map key elem)) {K : KeyF} (hK : keyF P key = some K) {z : AV} (hz : zeroOf P elem = some z) {ok : Bool} {n0 : Nat} {ρ : Rho} {H : AH} {w : World} (hr : HQ P n0 ρ H w) {S : AS} {x k : Opd} {v : AV} {vx vk : Value} (hx : VR ρ (x S) vx) (hk : VR ρ (k S) vk)
    (h : lookF K z ok x k S H = some v) : ∃ v', (Instr.lookup t vx vk ok).run P w = .ok v' w ∧ VR ρ v v' := by
  have hok := keyF_ok hK
  obtain ⟨d, hud, _⟩ := ob_eq_some.1 hK
  obtain ⟨zv, hz1, hz2⟩ := zero_run hz w
  have tail : ∀ {r : Option (Nat × AV)} {r' : Option (Nat × Value)} {es : Array MapEntry}, (match r, r' with | none, none => True | some (j, v), some (j', v') => j = j' ∧ VR ρ v v' | _, _ => False) → lookR ok z r = some v → (Instr.checkKey es.isEmpty 10000 key vk).run P w = .ok () w → (Instr.findKey key vk es.toList).run P w = .ok r' w →
      ∃ v', (do
        Instr.checkKey es.isEmpty 10000 key vk
        let (v, ok') ← match ← Instr.findKey key vk es.toList with
          | some (_, v) => pure (v, true)
          | none => pure (← zeroValue elem, false)
        pure (if ok then .tuple #[v, .bool ok'] else v) : Sem Value).run P w = .ok v' w ∧ VR ρ v v' := fun {r r' es} h1 h2 h3 h4 => by
    cases r with
    | none => cases r' with
      | some r' => exact h1.elim
      | none =>
        obtain rfl := Option.some.inj (show some (bif ok then AV.tuple [z, .bool false] else z) = some v from h2)
        refine ⟨if ok then .tuple #[zv, .bool false] else zv, ?_, ?_⟩
        · simp [Sem.run_bind, h3, h4, hz1, Result.andThen]
        · cases ok with
          | true => exact ⟨#[zv, .bool false], rfl, _, _, rfl, absV_sound hz2, _, _, rfl, rfl, rfl⟩
          | false => exact absV_sound hz2
    | some r => cases r' with
      | none => exact h1.elim
      | some r' =>
        obtain ⟨j, u⟩ := r
        obtain ⟨j', u'⟩ := r'
        obtain ⟨_, h1⟩ := h1
        obtain rfl := Option.some.inj (show some (bif ok then AV.tuple [u, .bool true] else u) = some v from h2)
        refine ⟨if ok then .tuple #[u', .bool true] else u', ?_, ?_⟩
        · simp [Sem.run_bind, h3, h4, Result.andThen]
        · cases ok with
          | true => exact ⟨#[u', .bool true], rfl, _, _, rfl, h1, _, _, rfl, rfl, rfl⟩
          | false => exact h1
  unfold lookF at h
  split at h
  · rename_i r hX
    rw [hX] at hx
    simp only [VR] at hx
    obtain ⟨l, hl, rfl⟩ := hx
    obtain ⟨es, c, hg, h⟩ := onMap_some h
    obtain ⟨h1, h⟩ := cond_some h
    obtain ⟨q, hq, h⟩ := ob_eq_some.1 h
    obtain ⟨es', he1, he2⟩ := hr.mapOf hl hg
    rw [EntsR_empty he2] at h1
    obtain ⟨r', h3, h4⟩ := hok.find w 0 hk he2 hq
    rw [← findKey_run hud] at h3
    obtain ⟨v', h5, h6⟩ := tail (r := q) (r' := r') (by
      revert h4
      cases q with
      | none => cases r' <;> exact id
      | some q => cases r' with
        | none => exact id
        | some r' => exact fun h => ⟨h.1, h.2.1⟩) h (hok.ok w h1 hk) h3
    refine ⟨v', ?_, h6⟩
    rw [← h5]
    unfold Instr.lookup
    simp only [Sem.run_bind, under_run hu, Result.andThen, run_getObj_map he1, Sem.run_pure]
    rfl
  · rename_i hX
    rw [hX] at hx
    simp only [VR] at hx
    subst hx
    obtain ⟨h1, h⟩ := cond_some h
    obtain ⟨v', h5, h6⟩ := tail (es := #[]) (r := none) (r' := none) trivial h (hok.ok w h1 hk) (by rw [findKey_run hud]; rfl)
    refine ⟨v', ?_, h6⟩
    rw [← h5]
    unfold Instr.lookup
    simp only [Sem.run_bind, under_run hu, Result.andThen, Sem.run_pure]
    rfl
  · cases h
end Go.Ab
