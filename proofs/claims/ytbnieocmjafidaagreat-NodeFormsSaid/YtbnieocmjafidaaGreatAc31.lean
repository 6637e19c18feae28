/- The abstract machine, 31: a region that draws its order, whole. -/
import Derived.Test.YtbnieocmjafidaaGreatAc30
set_option linter.unusedVariables false
set_option linter.unusedSimpArgs false
namespace Go.Ab
variable {P : Program}

theorem planOk_nil {l : List Do} {rds done : Nat} : planOk l rds [] done = Nat.beq done (Nat.sub (bit (lenL l)) 1) := rfl
theorem planOk_non {l : List Do} {rds done i : Nat} {r : List It} (h : planOk l rds (.non i :: r) done = true) : ∃ x, l[i]? = some x ∧ x.isAct = false ∧ has done i = false ∧ sub? x.b done = true ∧ planOk l rds r (Nat.lor done (bit i)) = true := by
  have h : (match nthL l i with
    | some x => cnd (x.isAct || has done i || !sub? x.b done) false (planOk l rds r (Nat.lor done (bit i)))
    | none => false) = true := h
  rw [nthL_eq] at h
  split at h
  · rename_i x hx
    obtain ⟨h1, h2⟩ := cnd_isFalse h
    simp only [Bool.or_eq_false_iff, Bool.not_eq_false'] at h1
    exact ⟨x, hx, h1.1.1, h1.1.2, h1.2, h2⟩
  · cases h
theorem planOk_act {l : List Do} {rds done i : Nat} {ag : List Nat} {r : List It} (h : planOk l rds (.act i ag :: r) done = true) : ∃ x, l[i]? = some x ∧ x.isAct = true ∧ has done i = false ∧ sub? x.b done = true ∧ actOk i done l 0 = true ∧ sub? (minus (Nat.land rds done) x.b) (bitsTo ag) = true ∧ planOk l rds r (Nat.lor done (bit i)) = true := by
  have h : (match nthL l i with
    | some x => cnd (x.isAct && !has done i && sub? x.b done && actOk i done l 0 && sub? (minus (Nat.land rds done) x.b) (bitsTo ag)) (planOk l rds r (Nat.lor done (bit i))) false
    | none => false) = true := h
  rw [nthL_eq] at h
  split at h
  · rename_i x hx
    obtain ⟨h1, h2⟩ := cnd_isTrue h
    simp only [Bool.and_eq_true, Bool.not_eq_true'] at h1
    exact ⟨x, hx, h1.1.1.1.1, h1.1.1.1.2, h1.1.1.2, h1.1.2, h1.2, h2⟩
  · cases h
theorem has_full (n i : Nat) : has (Nat.sub (bit n) 1) i = decide (i < n) := by
  rw [has_eq]
  have : Nat.sub (bit n) 1 = 2 ^ n - 1 := by
    unfold bit
    show 1 <<< n - 1 = _
    rw [Nat.one_shiftLeft]
  rw [this, Nat.testBit_two_pow_sub_one]
theorem stepsF_cons {s : StepF} {ss : List StepF} {r : StepF} (h : stepsF (s :: ss) = some r) : ∃ r', stepsF ss = some r' ∧ r = consS s r' := by
  obtain ⟨r', h1, h2⟩ := ob_eq_some.1 (show ob (stepsF ss) (fun r => some (consS s r)) = some r from h)
  exact ⟨r', h1, (Option.some.inj h2).symm⟩

/-- Those that are read again read the same. -/
theorem again_sound {nt : Nat} {ops : Array Oper} {l : List Do} {sub : Sub} {S : AS} {H : AH} {k : AS → AH → Bool} : ∀ {ag : List Nat} {as ss : List StepF} {r : StepF}, mapO (fun j => ob (nthL l j) (stepAgain ops.toList nt)) ag = some as → stepsF (catL as ss) = some r → r sub S H k = true →
    ∃ r', stepsF ss = some r' ∧ r' sub S H k = true ∧ ∀ j ∈ ag, ∀ y f, l[j]? = some y → y.F = .read f → wantA ops y.o S = some true → ∃ v, f S H = some v ∧ DstV S y.o v
  | [], as, ss, r, h1, h2, h3 => by
    obtain rfl := Option.some.inj (show some [] = some as from h1)
    exact ⟨r, h2, h3, by simp⟩
  | j :: ag, as, ss, r, h1, h2, h3 => by
    obtain ⟨s, hs, h1⟩ := ob_eq_some.1 (show ob (ob (nthL l j) (stepAgain ops.toList nt)) (fun b => ob (mapO (fun j => ob (nthL l j) (stepAgain ops.toList nt)) ag) fun bs => some (b :: bs)) = some as from h1)
    obtain ⟨as', has', h1⟩ := ob_eq_some.1 h1
    obtain rfl := Option.some.inj h1
    obtain ⟨x, hx, hs⟩ := ob_eq_some.1 hs
    rw [nthL_eq] at hx
    obtain ⟨r1, h4, rfl⟩ := stepsF_cons (s := s) (ss := catL as' ss) h2
    have h3 : s sub S H (fun S H => r1 sub S H k) = true := h3
    have key : r1 sub S H k = true ∧ ∀ f, x.F = .read f → wantA ops x.o S = some true → ∃ v, f S H = some v ∧ DstV S x.o v := by
      unfold stepAgain at hs
      split at hs
      · rename_i f hF
        obtain ⟨d, hd, hs⟩ := ob_eq_some.1 hs
        cases d with
        | none =>
          rcases guard_cases hs h3 with ⟨hw, h5⟩ | ⟨hw, h5⟩
          · obtain ⟨v, h6, h7⟩ := obB_eq.1 h5
            refine ⟨h7, fun g hg _ => ?_⟩
            rw [hF] at hg
            cases hg
            refine ⟨v, h6, fun t ht => ?_⟩
            rcases dstE_some hd with ⟨e, _⟩ | ⟨_, _, _, e⟩
            · rw [e] at ht; cases ht
            · cases e
          · exact ⟨by rcases h5 with h5 | h5 <;> exact h5, fun g hg hw' => by rw [hw] at hw'; cases hw'⟩
        | some p =>
          rcases guard_cases hs h3 with ⟨hw, h5⟩ | ⟨hw, h5⟩
          · obtain ⟨v, h6, h7⟩ := obB_eq.1 h5
            obtain ⟨v', h8, h9⟩ := obB_eq.1 h7
            obtain ⟨h10, h11⟩ := cnd_isTrue h9
            have := AV.beq_eq _ _ h10
            subst this
            refine ⟨h11, fun g hg _ => ?_⟩
            rw [hF] at hg
            cases hg
            refine ⟨v, h6, fun t ht => ?_⟩
            rcases dstE_some hd with ⟨_, e⟩ | ⟨u, e1, _, e2⟩
            · cases e
            · obtain rfl := Option.some.inj e2
              rw [e1, Option.some.injEq] at ht
              subst ht
              exact h8
          · exact ⟨by rcases h5 with h5 | h5 <;> exact h5, fun g hg hw' => by rw [hw] at hw'; cases hw'⟩
      · cases hs
    obtain ⟨r', h5, h6, h7⟩ := again_sound has' h4 key.1
    refine ⟨r', h5, h6, fun j' hj' y f hy hf hw => ?_⟩
    rcases List.mem_cons.1 hj' with rfl | hj'
    · rw [hx, Option.some.injEq] at hy; subst hy; exact key.2 f hf hw
    · exact h7 j' hj' y f hy hf hw

section
variable {ent : FuncId → EK} {sub : Sub} {nt : Nat} {ops : Array Oper} {l : List Do} {n0 : Nat} {ρs : Rho} {Hs : AH} {ws : World} {k : AS → AH → Bool} {F : Fence} {n : Nat} {Q : Exit → Act → World → Prop} {rds : Nat}

/-- Where the abstract machine stands in its plan. -/
structure At (nt : Nat) (ops : Array Oper) (l : List Do) (rds : Nat) (sub : Sub) (k : AS → AH → Bool) (S : AS) (H : AH) (hist : List Nat) (its : List It) (done : Nat) : Prop where
  mask : ∀ i, has done i = true ↔ i ∈ hist
  plan : planOk l rds its done = true
  run : ∃ ss r, planSteps ops.toList nt l its = some ss ∧ stepsF ss = some r ∧ r sub S H k = true

theorem drawn_reach (hsub : SubOk P ent sub) (hR : Reg P nt ops l) (hrd : ∀ (i : Nat) x, l[i]? = some x → x.isRead = true → has rds i = true) (hn : n0 ≤ ws.heap.size) (hF : WF F) {ρ : Rho} {w : World} {a : Act} {D : Nat → Prop} {i : Nat} {x : Do} (hx : l[i]? = some x) (hD : ¬ D i) (hb : ∀ q, has x.b q = true → D q) {K : Act → World → Prop}
    (hK : ∀ ρ' w' a' S' H' hist' its' done' β', Inv P nt ops l n0 ρs Hs ws ρ' H' w' S' a' hist' (fun q => D q ∨ q = i) β' → (∀ q, q = freeOf l → q ∈ hist' → D q ∨ q = i) → At nt ops l rds sub k S' H' hist' its' done' → K a' w') :
    ∀ (its : List It) (hist : List Nat) (done : Nat) (S : AS) (H : AH) (β : Nat → Pa), Inv P nt ops l n0 ρs Hs ws ρ H w S a hist D β → (∀ q, q = freeOf l → q ∈ hist → D q ∨ q = i) → At nt ops l rds sub k S H hist its done → wpOpIn F n P ops Q i K a w := by
  have hlt : i < l.length := (List.getElem?_eq_some_iff.1 hx).1
  intro its
  induction its with
  | nil =>
    intro hist done S H β hI hlast hat
    by_cases hi : i ∈ hist
    · exact hI.exec hR hn hx hi hD hb hlast hF fun ρ' w' a' h => hK _ _ _ _ _ _ _ _ _ h (fun q h1 h2 => hlast q h1 h2) hat
    · exfalso
      have h1 := hat.plan
      rw [planOk_nil, nbeq, decide_eq_true_eq, lenL_eq] at h1
      apply hi
      rw [← hat.mask, h1, has_full]
      simpa using hlt
  | cons it its ih =>
    intro hist done S H β hI hlast hat
    by_cases hi : i ∈ hist
    · exact hI.exec hR hn hx hi hD hb hlast hF fun ρ' w' a' h => hK _ _ _ _ _ _ _ _ _ h (fun q h1 h2 => hlast q h1 h2) hat
    · obtain ⟨ss, r, hps, hss, hrun⟩ := hat.run
      have all : i = freeOf l → ∀ q ∈ hist, D q := fun hfr q hq => by
        obtain ⟨z, hz, _⟩ : ∃ z, l[q]? = some z ∧ True := by
          have : ∀ {h : List Nat}, HistOk l h → q ∈ h → ∃ z, l[q]? = some z ∧ True := fun {h} hh hq => by
            induction h with
            | nil => cases hq
            | cons p h ih2 =>
              obtain ⟨_, ⟨z, hz, _⟩, hh⟩ := hh
              rcases List.mem_cons.1 hq with rfl | hq
              · exact ⟨z, hz, trivial⟩
              · exact ih2 hh hq
          exact this hI.hok hq
        exact hb q (free_spec hfr.symm hx q (List.getElem?_eq_some_iff.1 hz).1 (fun e => hi (e ▸ hq)))
      cases it with
      | non j =>
        obtain ⟨y, hy, hact, hnd, hsubb, hplan⟩ := planOk_non hat.plan
        have hj : j ∉ hist := fun h => by rw [(hat.mask j).2 h] at hnd; cases hnd
        have hbj : ∀ q, has y.b q = true → q ∈ hist := fun q hq => (hat.mask q).1 (sub_spec.1 hsubb q hq)
        obtain ⟨y', hy', hps⟩ := ob_eq_some.1 hps
        rw [nthL_eq, hy, Option.some.injEq] at hy'
        subst hy'
        obtain ⟨s, hs, hps⟩ := ob_eq_some.1 hps
        obtain ⟨ss', hss', hps⟩ := ob_eq_some.1 hps
        obtain rfl := Option.some.inj hps
        obtain ⟨r', hr', rfl⟩ := stepsF_cons hss
        have jfree : j = freeOf l → j = i := fun hfr => Classical.byContradiction fun hne => hi (hbj i (free_spec hfr.symm hy i hlt (fun e => hne e.symm)))
        obtain ⟨S', H', β', g1, g2⟩ := hI.stage hR hy hj hbj hact (fun hfr => all (jfree hfr ▸ hfr)) hs hrun
        refine ih (j :: hist) (Nat.lor done (bit j)) S' H' β' g2 (fun q h1 h2 => ?_) ⟨fun q => ?_, hplan, ss', r', hss', hr', g1⟩
        · rcases List.mem_cons.1 h2 with rfl | h2
          · exact .inr (jfree h1)
          · exact hlast q h1 h2
        · rw [has_or, has_bit, Bool.or_eq_true, hat.mask, decide_eq_true_eq, List.mem_cons]
          constructor
          · rintro (h | h); exact .inr h; exact .inl h.symm
          · rintro (h | h); exact .inr h.symm; exact .inl h
      | act j ag =>
        obtain ⟨y, hy, hact, hnd, hsubb, hok, hag, hplan⟩ := planOk_act hat.plan
        have hj : j ∉ hist := fun h => by rw [(hat.mask j).2 h] at hnd; cases hnd
        have hij : i = j := by
          rcases actOk_spec hok i x hx with h1 | ⟨_, h1⟩ | ⟨_, h1⟩
          · rw [Nat.zero_add] at h1; exact absurd ((hat.mask i).1 h1) hi
          · rcases h1 with h1 | h1
            · omega
            · exact absurd (hI.sub j (hb j h1)) hj
          · have : sub? x.b done = true := sub_spec.2 fun q hq => (hat.mask q).2 (hI.sub q (hb q hq))
            rw [this] at h1; cases h1
        subst hij
        rw [hx, Option.some.injEq] at hy
        subst hy
        obtain ⟨y', hy', hps⟩ := ob_eq_some.1 hps
        rw [nthL_eq, hx, Option.some.injEq] at hy'
        subst hy'
        obtain ⟨s, hs, hps⟩ := ob_eq_some.1 hps
        obtain ⟨as, has', hps⟩ := ob_eq_some.1 hps
        obtain ⟨ss', hss', hps⟩ := ob_eq_some.1 hps
        obtain rfl := Option.some.inj hps
        obtain ⟨r1, hr1, rfl⟩ := stepsF_cons hss
        have hrun : s sub S H (fun S H => r1 sub S H k) = true := hrun
        obtain ⟨r2, hr2, _⟩ : ∃ r2, stepsF ss' = some r2 ∧ True := by
          have : ∀ {as : List StepF} {r1}, stepsF (catL as ss') = some r1 → ∃ r2, stepsF ss' = some r2 ∧ True := fun {as} => by
            induction as with
            | nil => intro r1 h; exact ⟨r1, h, trivial⟩
            | cons s as ih3 => intro r1 h; obtain ⟨r', h', _⟩ := stepsF_cons (s := s) (ss := catL as ss') h; exact ih3 h'
          exact this hr1
        refine hI.act hsub hR hn hx hi hact hb (fun q h1 h2 => (hlast q h1 h2).elim id (fun e => absurd (e ▸ h2) hi)) all hs hrun (k2 := fun S H => r2 sub S H k) (fun S' H' g => ?_) hF fun ρ' S' H' w' a' g1 g2 => hK _ _ _ _ _ _ its (Nat.lor done (bit i)) _ g2 (fun q h1 h2 => ?_) ⟨fun q => ?_, hplan, ss', r2, hss', hr2, g1⟩
        · obtain ⟨r', q1, q2, q3⟩ := again_sound has' hr1 g
          rw [hr2, Option.some.injEq] at q1
          subst q1
          refine ⟨q2, fun j y f hj hDj hy hf hw => q3 j ?_ y f hy hf hw⟩
          rw [← has_bitsTo]
          refine sub_spec.1 hag j (has_minus ?_ ?_)
          · have e : has (Nat.land rds done) j = (has rds j && has done j) := by
              rw [has_eq, has_eq, has_eq]; exact Nat.testBit_and rds done j
            rw [e, hrd j y hy (by simp [Do.isRead, kdOf, hf]), (hat.mask j).2 hj]
            rfl
          · cases hh : has x.b j with
            | false => rfl
            | true => exact absurd (hb j hh) hDj
        · rcases List.mem_cons.1 h2 with rfl | h2
          · exact .inr rfl
          · exact hlast q h1 h2
        · rw [has_or, has_bit, Bool.or_eq_true, hat.mask, decide_eq_true_eq, List.mem_cons]
          constructor
          · rintro (h | h); exact .inr h; exact .inl h.symm
          · rintro (h | h); exact .inr h.symm; exact .inl h

/-- All is listed: the abstract machine is through too. -/
theorem drawn_done (hR : Reg P nt ops l) {ρ : Rho} {H : AH} {w : World} {S : AS} {a : Act} {hist : List Nat} {D : Nat → Prop} {β : Nat → Pa} {its : List It} {done : Nat} (hI : Inv P nt ops l n0 ρs Hs ws ρ H w S a hist D β) (hat : At nt ops l rds sub k S H hist its done) (hall : ∀ i, i < ops.size → D i)
    (hg : Good P n0 ρs Hs ws nt k (fun a w => Q .normal a w)) : Q .normal a w := by
  have hin : ∀ (i : Nat) x, l[i]? = some x → i ∈ hist := fun i x hx => hI.sub i (hall i (by rw [← hR.len]; exact (List.getElem?_eq_some_iff.1 hx).1))
  cases its with
  | cons it its =>
    exfalso
    cases it with
    | non j =>
      obtain ⟨y, hy, _, hnd, _⟩ := planOk_non hat.plan
      rw [(hat.mask j).2 (hin j y hy)] at hnd; cases hnd
    | act j ag =>
      obtain ⟨y, hy, _, hnd, _⟩ := planOk_act hat.plan
      rw [(hat.mask j).2 (hin j y hy)] at hnd; cases hnd
  | nil =>
    obtain ⟨ss, r, h1, h2, h3⟩ := hat.run
    obtain rfl := Option.some.inj (show some [] = some ss from h1)
    obtain rfl := Option.some.inj (show some nilS = some r from h2)
    refine hg S H ρ a w h3 ⟨⟨hI.size, fun t => ?_⟩, hI.marks⟩ hI.sim
    rcases hI.tr t with ⟨i, x, g1, g2, g3, g4⟩ | h
    · exact absurd (hall i (by rw [← hR.len]; exact (List.getElem?_eq_some_iff.1 g3).1)) g2
    · exact h
end
end Go.Ab
