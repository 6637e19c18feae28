/- The abstract machine, 20: what is kept of an operation is what it does: all of them. -/
import Derived.Test.YtbnieocmjafidaaGreatAc19
set_option linter.unusedVariables false
set_option linter.unusedSimpArgs false
namespace Go.Ab
variable {P : Program}

theorem toL {l : Array Operand} {a : List Operand} (h : l.toList = a) {ρ : Rho} {S : AS} {e : Operand → Value} (ho : ∀ x ∈ l.toList, OR ρ S e x) : ∀ x ∈ a, OR ρ S e x := h ▸ ho
theorem compBuiltin_sound {dst : Option Tmp} {b : Builtin} {c : Call} {ty : TypeId} {pos : String} {after : Array Edge} {guard : Option (Nat × Bool)} (hb : c.callee = .builtin b) {as : List Opd} (ha : opL c.args.toList = some as) {F : OF} (h : compBuiltin P b as c.argTypes.toList = some F) :
    OFS P ⟨dst, .call c, ty, pos, after, guard⟩ F := by
  obtain ⟨callee, args, ts⟩ := c
  simp only at hb ha h
  subst hb
  have hops : ∀ {ρ : Rho} {S : AS} {e : Operand → Value}, (∀ x ∈ (Op.call ⟨.builtin b, args, ts⟩).operands.toList, OR ρ S e x) → VRs ρ (as.map fun f => f S) (args.toList.map e) := fun ho =>
    opL_all ha fun x hx => ho x (by simpa [Op.operands, Call.operands] using hx)
  have ts0 : ∀ {t r}, ts.toList = t :: r → ts[0]? = some t := fun {t r} h => by
    have : ts.toList[0]? = some t := by rw [h]; rfl
    simpa using this
  have ts1 : ∀ {t u r}, ts.toList = t :: u :: r → ts[1]? = some u := fun {t u r} h => by
    have : ts.toList[1]? = some u := by rw [h]; rfl
    simpa using this
  have a1 : ∀ {ρ : Rho} {S : AS} {e : Operand → Value} {x : Opd}, as = [x] → VRs ρ (as.map fun f => f S) (args.toList.map e) → ∃ vx, args.map e = #[vx] ∧ VR ρ (x S) vx := fun {ρ S e x} hs hv => by
    rw [hs] at hv
    obtain ⟨v, vs', h1, h2, h3⟩ := hv
    obtain rfl : vs' = [] := h3
    exact ⟨v, Array.toList_inj.1 (by simpa using h1), h2⟩
  have a2 : ∀ {ρ : Rho} {S : AS} {e : Operand → Value} {x y : Opd}, as = [x, y] → VRs ρ (as.map fun f => f S) (args.toList.map e) → ∃ vx vy, args.map e = #[vx, vy] ∧ VR ρ (x S) vx ∧ VR ρ (y S) vy := fun {ρ S e x y} hs hv => by
    rw [hs] at hv
    obtain ⟨v, vs', h1, h2, u, us', h3, h4, h5⟩ := hv
    obtain rfl : us' = [] := h5
    subst h3
    exact ⟨v, u, Array.toList_inj.1 (by simpa using h1), h2, h4⟩
  have run : ∀ {e : Operand → Value}, execOp e ⟨dst, .call ⟨.builtin b, args, ts⟩, ty, pos, after, guard⟩ = (do let d ← (pure { target := .builtin b ts ty (args.map fun | .const _ => true | _ => false), args := args.map e } : Sem Deferred); invoke d.target d.args) := fun {e} => rfl
  cases b <;> simp only [compBuiltin] at h <;> first | (cases h; done) | skip
  case len =>
    split at h
    · rename_i x t r hts
      obtain ⟨d, hu, h⟩ := ob_eq_some.1 h
      have go : ∀ (k : AV → Bool), F = .read (lenK k x) → (d = .string ∨ (∃ e, d = .slice e) ∨ ∃ k e, d = .map k e) → (∀ v, k v = true → (d = .string → isStr v = true) ∧ ((∃ e, d = .slice e) → isSl v = true) ∧ ((∃ k e, d = .map k e) → isMp v = true)) → OFS P ⟨dst, .call ⟨.builtin .len, args, ts⟩, ty, pos, after, guard⟩ F := fun k hF hd hk => by
        subst hF
        intro n0 ρ H w S e v hr ho hv
        obtain ⟨hk1, hv⟩ := cnd_some hv
        obtain ⟨vx, e1, e2⟩ := a1 (S := S) (e := e) rfl (hops ho)
        rw [run, e1]
        exact toNext (len_sound (ts0 hts) hu hd hr e2 (hk _ hk1) hv)
      cases d <;> simp only at h <;> first | (cases h; done) | (obtain rfl := Option.some.inj h)
      case string => exact go _ rfl (.inl rfl) fun v hv => ⟨fun _ => hv, by simp, by simp⟩
      case array =>
        intro n0 ρ H w S e v hr ho hv
        obtain ⟨vx, e1, e2⟩ := a1 (S := S) (e := e) rfl (hops ho)
        obtain rfl := Option.some.inj hv
        rw [run, e1]
        refine toNext ⟨.int .i64 (Int.ofNat _), ?_, rfl⟩
        simp [Builtin.len_, ts0 hts, Sem.run_bind, under_run hu, Result.andThen, goInt]
      case slice el => exact go _ rfl (.inr (.inl ⟨_, rfl⟩)) fun v hv => ⟨by simp, fun _ => hv, by simp⟩
      case map k el => exact go _ rfl (.inr (.inr ⟨_, _, rfl⟩)) fun v hv => ⟨by simp, by simp, fun _ => hv⟩
    · cases h
  case max =>
    obtain rfl := Option.some.inj h
    intro n0 ρ H w S e v hr ho hv
    have hvs := hops (S := S) (e := e) ho
    cases as with
    | nil => cases hv
    | cons x r =>
      obtain ⟨u, us, h1, h2, h3⟩ := hvs
      have hv : (match x S with | .int k a => mmL maxI k S r a | _ => none) = some v := hv
      split at hv
      · rename_i k a hX
        have h2 : VR ρ (x S) u := h2
        rw [hX] at h2
        simp only [VR] at h2
        subst h2
        obtain ⟨v', h4, h5⟩ := mm_sound (m2 := Builtin.max2) (fun k a b => by simp only [Builtin.max2, maxI_eq]) (w := w) h3 hv
        refine toNext (s := Builtin.max_ ts ty (args.map e)) ⟨v', ?_, h5⟩
        have : (args.map e).toList = .int k a :: us := by simpa using h1
        unfold Builtin.max_
        rw [this]
        exact h4
      · cases hv
  case min =>
    obtain rfl := Option.some.inj h
    intro n0 ρ H w S e v hr ho hv
    have hvs := hops (S := S) (e := e) ho
    cases as with
    | nil => cases hv
    | cons x r =>
      obtain ⟨u, us, h1, h2, h3⟩ := hvs
      have hv : (match x S with | .int k a => mmL minI k S r a | _ => none) = some v := hv
      split at hv
      · rename_i k a hX
        have h2 : VR ρ (x S) u := h2
        rw [hX] at h2
        simp only [VR] at h2
        subst h2
        obtain ⟨v', h4, h5⟩ := mm_sound (m2 := Builtin.min2) (fun k a b => by simp only [Builtin.min2, minI_eq]) (w := w) h3 hv
        refine toNext (s := Builtin.min_ ts ty (args.map e)) ⟨v', ?_, h5⟩
        have : (args.map e).toList = .int k a :: us := by simpa using h1
        unfold Builtin.min_
        rw [this]
        exact h4
      · cases hv
  case append =>
    split at h
    · rename_i s x st xt r hts
      obtain ⟨d, hu, h⟩ := ob_eq_some.1 h
      obtain ⟨d', hu', h⟩ := ob_eq_some.1 h
      obtain ⟨elem, rfl⟩ : ∃ elem, d = .slice elem := by cases d <;> first | exact ⟨_, rfl⟩ | (cases h; done)
      have hd : ∀ k, d' ≠ .int k := fun k e => by subst e; cases h
      have h : (ob (zeros P elem) fun _ => ob (sz P elem) fun size => ob (bytesOfT P elem) fun bytes => some (OF.act (appF size bytes s x))) = some F := by
        cases d' <;> first | exact h | exact absurd rfl (hd _)
      obtain ⟨zs, hz, h⟩ := ob_eq_some.1 h
      obtain ⟨size, hs, h⟩ := ob_eq_some.1 h
      obtain ⟨bytes, hb, h⟩ := ob_eq_some.1 h
      obtain rfl := Option.some.inj h
      intro n0 ρ H H' w S e v hr hn ho hv
      obtain ⟨vs, vx, e1, e2, e3⟩ := a2 (S := S) (e := e) rfl (hops ho)
      rw [run, e1]
      exact (app_sound (ts0 hts) (ts1 hts) hu hu' hd hz hs hb hr hn e2 e3 hv).next
    · cases h
  case copy =>
    split at h
    · rename_i d s t r hts
      obtain ⟨u, hu, h⟩ := ob_eq_some.1 h
      cases u <;> simp only at h <;> first | (cases h; done) | skip
      rename_i elem
      obtain ⟨size, hs, h⟩ := ob_eq_some.1 h
      obtain rfl := Option.some.inj h
      intro n0 ρ H H' w S e v hr hn ho hv
      obtain ⟨vd, vs, e1, e2, e3⟩ := a2 (S := S) (e := e) rfl (hops ho)
      obtain ⟨hk, hv⟩ := cnd_some hv
      rw [run, e1]
      exact (copy_sound (ts0 hts) hu hs hr e2 e3 hk hv).next
    · cases h
  case clear =>
    split at h
    · rename_i x t r hts
      obtain ⟨u, hu, h⟩ := ob_eq_some.1 h
      cases u <;> simp only at h <;> first | (cases h; done) | skip
      · rename_i elem
        obtain ⟨zs, hz, h⟩ := ob_eq_some.1 h
        obtain rfl := Option.some.inj h
        intro n0 ρ H H' w S e v hr hn ho hv
        obtain ⟨vx, e1, e2⟩ := a1 (S := S) (e := e) rfl (hops ho)
        rw [run, e1]
        exact (clrS_sound (ts0 hts) hu hz hr e2 hv).next
      · obtain rfl := Option.some.inj h
        intro n0 ρ H H' w S e v hr hn ho hv
        obtain ⟨vx, e1, e2⟩ := a1 (S := S) (e := e) rfl (hops ho)
        rw [run, e1]
        exact (clrM_sound (ts0 hts) hu hr e2 hv).next
    · cases h
  case delete =>
    split at h
    · rename_i m k t r hts
      obtain ⟨u, hu, h⟩ := ob_eq_some.1 h
      cases u <;> simp only at h <;> first | (cases h; done) | skip
      obtain ⟨K, hK, h⟩ := ob_eq_some.1 h
      obtain rfl := Option.some.inj h
      intro n0 ρ H H' w S e v hr hn ho hv
      obtain ⟨vm, vk, e1, e2, e3⟩ := a2 (S := S) (e := e) rfl (hops ho)
      rw [run, e1]
      exact (del_sound (ts0 hts) hu hK hr e2 e3 hv).next
    · cases h
end Go.Ab
