/- The abstract machine, 12: equality, conversions, maps that are read. -/
import Derived.Test.YtbnieocmjafidaaGreatAc11
set_option linter.unusedVariables false
set_option linter.unusedSimpArgs false
namespace Go.Ab
variable {P : Program}

/-! ### Equality -/
theorem nilEq_sound {ρ : Rho} {t : TypeId} {d : TypeDesc} (hu : P.underlying t = some d) (hd : (∃ e, d = .slice e) ∨ (∃ k e, d = .map k e) ∨ ∃ a b c, d = .func a b c) {x y : AV} {b : Bool} {vx vy : Value} (hx : VR ρ x vx) (hy : VR ρ y vy)
    (hk : (∀ e, d = .slice e → (∃ a l c, vx = .slice a l c)) ∧ (∀ k e, d = .map k e → ∃ r, vx = .map r) ∧ (∀ a b c, d = .func a b c → vx = .nilFunc ∨ ∃ f g h, vx = .func f g h)) (h : nilEq x y = some b) (w : World) :
    (Op.equal t vx vy).run P w = .ok b w := by
  unfold Op.equal Op.maxDepth Op.equalIn
  simp only [Sem.run_bind, under_run hu, Result.andThen]
  unfold nilEq at h
  split at h
  all_goals try (cases h; done)
  all_goals split at h
  all_goals try (cases h; done)
  all_goals obtain rfl := Option.some.inj h
  all_goals simp only [VR] at hx hy
  all_goals (try subst hx)
  all_goals (try subst hy)
  all_goals (try (obtain ⟨_, _, _, rfl, _⟩ := hx))
  all_goals (try (obtain ⟨_, _, _, rfl, _⟩ := hy))
  all_goals (try (obtain ⟨_, _, rfl⟩ := hx))
  all_goals (try (obtain ⟨_, _, rfl⟩ := hy))
  all_goals (try (obtain ⟨_, rfl, _⟩ := hx))
  all_goals (try (obtain ⟨_, rfl, _⟩ := hy))
  all_goals rcases hd with ⟨e, rfl⟩ | ⟨k, e, rfl⟩ | ⟨a, b, c, rfl⟩
  all_goals first | rfl | (exfalso; obtain ⟨h1, h2, h3⟩ := hk; first | (obtain ⟨_, _, _, h⟩ := h1 _ rfl; cases h; done) | (obtain ⟨_, h⟩ := h2 _ _ rfl; cases h; done) | (rcases h3 _ _ _ rfl with h | ⟨_, _, _, h⟩ <;> cases h; done))

theorem genSame_sound {ρ : Rho} {t : TypeId} {x y : AV} {b : Bool} {vx vy : Value} (hx : VR ρ x vx) (hy : VR ρ y vy) (h : genSame P t x y = some b) (w : World) : (Op.equal t vx vy).run P w = .ok b w := by
  obtain ⟨a, h1, h⟩ := ob_eq_some.1 h
  obtain ⟨c, h2, h⟩ := ob_eq_some.1 h
  rw [conc_sound h1 hx, conc_sound h2 hy]
  exact runPure_sound w _ _ h
theorem binOp_eql {t : TypeId} {vx vy : Value} {b : Bool} {w : World} (h : (Op.equal t vx vy).run P w = .ok b w)
    (hk : (∃ b, vx = .bool b) ∨ (∃ q, vx = .pointer q) ∨ (∃ a l c, vx = .slice a l c) ∨ (∃ r, vx = .map r) ∨ vx = .nilFunc ∨ (∃ f g h, vx = .func f g h) ∨ ∃ a, vx = .agg a) :
    (binOp .eql t vx vy).run P w = .ok (.bool b) w ∧ (binOp .neq t vx vy).run P w = .ok (.bool (!b)) w := by
  have h1 : binOp .eql t vx vy = (do pure (.bool (← Op.equal t vx vy))) ∧ binOp .neq t vx vy = (do pure (.bool (!(← Op.equal t vx vy)))) := by
    rcases hk with ⟨_, rfl⟩ | ⟨_, rfl⟩ | ⟨_, _, _, rfl⟩ | ⟨_, rfl⟩ | rfl | ⟨_, _, _, rfl⟩ | ⟨_, rfl⟩ <;> exact ⟨rfl, rfl⟩
  rw [h1.1, h1.2]
  simp only [Sem.run_bind, h, Result.andThen, Sem.run_pure, and_self]
/-- What 'eqV' says is what == says, whatever stands ahead of it. -/
theorem eqV_sound {n0 : Nat} {ρ : Rho} {H : AH} {w : World} (hr : HQ P n0 ρ H w) {t : TypeId} {f : AH → AV → AV → Option Bool} (hf : eqV P t = some f) {x y : AV} {b : Bool} {vx vy : Value} (hx : VR ρ x vx) (hy : VR ρ y vy) (h : f H x y = some b) :
    (binOp .eql t vx vy).run P w = .ok (.bool b) w ∧ (binOp .neq t vx vy).run P w = .ok (.bool (!b)) w ∧ ((vx = .nilIface → vy ≠ .nilIface) ∧ ((∃ a c, vx = .agg a ∧ vy = .agg c) → P.eqGuardType P.depth t = false)) := by
  obtain ⟨d, hu, hf⟩ := ob_eq_some.1 hf
  cases d <;> simp only at hf <;> first | (cases hf; done) | skip
  case bool =>
    obtain rfl := Option.some.inj hf
    have h : boolEq x y = some b := h
    unfold boolEq at h
    split at h
    · split at h
      · obtain rfl := Option.some.inj h
        simp only [VR] at hx hy
        subst hx hy
        have he : ∀ p q, (Op.equal t (.bool p) (.bool q)).run P w = .ok (beqB p q) w := fun p q => by
          unfold Op.equal Op.maxDepth Op.equalIn
          simp only [Sem.run_bind, under_run hu, Result.andThen, Sem.run_pure, beqB_eq]
        obtain ⟨h1, h2⟩ := binOp_eql (he _ _) (by simp)
        exact ⟨h1, h2, by simp⟩
      · cases h
    · cases h
  case string =>
    obtain rfl := Option.some.inj hf
    obtain ⟨s, s', rfl, rfl, rfl⟩ := strEq_sound hx hy h
    refine ⟨?_, ?_, by simp⟩
    · simp [binOp, Op.stringOp, bytesEq_list]
    · simp [binOp, Op.stringOp, bytesEq_list]
  case pointer e =>
    obtain ⟨n, hn, hf⟩ := ob_eq_some.1 hf
    obtain ⟨h0, hf⟩ := cond_none hf
    obtain rfl := Option.some.inj hf
    rw [nbeq, decide_eq_false_iff_not] at h0
    have he := ptrEq_sound hr hu hn h0 hx hy h
    have hp : (∃ q, vx = .pointer q) := by
      unfold ptrEq at h
      split at h
      · exact ⟨_, hx⟩
      · simp only [VR] at hx; obtain ⟨l, _, rfl⟩ := hx; exact ⟨_, rfl⟩
      · cases h
    obtain ⟨q, rfl⟩ := hp
    obtain ⟨h1, h2⟩ := binOp_eql he (by simp)
    exact ⟨h1, h2, by simp⟩
  case slice e =>
    obtain rfl := Option.some.inj hf
    obtain ⟨hk, h⟩ := cnd_some h
    have hv : ∃ a l c, vx = .slice a l c := by
      unfold isSl at hk
      split at hk
      · simp only [VR] at hx; obtain ⟨_, _, _, rfl, _⟩ := hx; exact ⟨_, _, _, rfl⟩
      · exact ⟨_, _, _, hx⟩
      · simp only [VR] at hx; obtain ⟨_, _, rfl⟩ := hx; exact ⟨_, _, _, rfl⟩
      · cases hk
    have he := nilEq_sound hu (.inl ⟨_, rfl⟩) hx hy ⟨fun _ _ => hv, by simp, by simp⟩ h w
    obtain ⟨a, l, c, rfl⟩ := hv
    obtain ⟨h1, h2⟩ := binOp_eql he (by simp)
    exact ⟨h1, h2, by simp⟩
  case map k e =>
    obtain rfl := Option.some.inj hf
    obtain ⟨hk, h⟩ := cnd_some h
    have hv : ∃ r, vx = .map r := by
      unfold isMp at hk
      split at hk
      · simp only [VR] at hx; obtain ⟨_, _, rfl⟩ := hx; exact ⟨_, rfl⟩
      · exact ⟨_, hx⟩
      · cases hk
    have he := nilEq_sound hu (.inr (.inl ⟨_, _, rfl⟩)) hx hy ⟨by simp, fun _ _ _ => hv, by simp⟩ h w
    obtain ⟨r, rfl⟩ := hv
    obtain ⟨h1, h2⟩ := binOp_eql he (by simp)
    exact ⟨h1, h2, by simp⟩
  case func a c d =>
    obtain rfl := Option.some.inj hf
    obtain ⟨hk, h⟩ := cnd_some h
    have hv : vx = .nilFunc ∨ ∃ f g h, vx = .func f g h := by
      unfold isFn at hk
      split at hk
      · simp only [VR] at hx; obtain ⟨_, rfl, _⟩ := hx; exact .inr ⟨_, _, _, rfl⟩
      · exact .inl hx
      · cases hk
    have he := nilEq_sound hu (.inr (.inr ⟨_, _, _, rfl⟩)) hx hy ⟨by simp, by simp, fun _ _ _ _ => hv⟩ h w
    rcases hv with rfl | ⟨_, _, _, rfl⟩
    · obtain ⟨h1, h2⟩ := binOp_eql he (by simp)
      exact ⟨h1, h2, by simp⟩
    · obtain ⟨h1, h2⟩ := binOp_eql he (by simp)
      exact ⟨h1, h2, by simp⟩
  case struct fs =>
    obtain ⟨hg, hf⟩ := cond_none hf
    obtain rfl := Option.some.inj hf
    have he := genSame_sound hx hy h w
    have hv : ∃ a c, vx = .agg a ∧ vy = .agg c := by
      unfold Op.equal Op.maxDepth Op.equalIn at he
      simp only [Sem.run_bind, under_run hu, Result.andThen] at he
      cases vx <;> first | (exfalso; cases vy <;> cases he; done) | skip
      cases vy <;> first | (exfalso; cases he; done) | skip
      exact ⟨_, _, rfl, rfl⟩
    obtain ⟨a, c, rfl, rfl⟩ := hv
    obtain ⟨h1, h2⟩ := binOp_eql he (by simp)
    exact ⟨h1, h2, by simp, fun _ => hg⟩
end Go.Ab
