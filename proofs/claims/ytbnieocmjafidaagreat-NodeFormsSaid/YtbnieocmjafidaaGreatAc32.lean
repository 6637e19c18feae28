/- The abstract machine, 32: every region that draws its order is sound; the machine is sound. -/
import Derived.Test.YtbnieocmjafidaaGreatAc31
set_option linter.unusedVariables false
set_option linter.unusedSimpArgs false
namespace Go.Ab
variable {P : Program}

/-- How many are not listed. -/
def leftOf (ops : Array Oper) (listed : Array Bool) : Nat := ((List.range ops.size).filter fun i => !listed.getD i true).length
theorem filter_lt {p q : Nat → Bool} (h : ∀ i, q i = true → p i = true) {i : Nat} (hp : p i = true) (hq : q i = false) : ∀ {l : List Nat}, i ∈ l → (l.filter q).length < (l.filter p).length
  | j :: l, hi => by
    have le : ∀ l : List Nat, (l.filter q).length ≤ (l.filter p).length := fun l => by
      induction l with
      | nil => simp
      | cons a l ih =>
        simp only [List.filter_cons]
        cases hqa : q a with
        | true => rw [h a hqa]; simp; exact ih
        | false => cases p a <;> simp <;> omega
    simp only [List.filter_cons]
    rcases List.mem_cons.1 hi with rfl | hi
    · rw [hp, hq]
      have := le l
      simp; omega
    · have := filter_lt h hp hq hi
      cases hqj : q j with
      | true => rw [h j hqj]; simp; exact this
      | false => cases p j <;> simp <;> omega
theorem getD_set' (listed : Array Bool) (i q : Nat) (hi : i < listed.size) (d : Bool) : (listed.setIfInBounds i true).getD q d = if q = i then true else listed.getD q d := by
  by_cases e : q = i
  · subst e
    simp [Array.getD, hi]
  · rw [if_neg e]
    simp [Array.getD_eq_getD_getElem?, Array.getElem?_setIfInBounds_ne (Ne.symm e)]

section
variable {ent : FuncId → EK} {sub : Sub} {nt : Nat} {ops : Array Oper} {l : List Do} {n0 : Nat} {ρs : Rho} {Hs : AH} {ws : World} {k : AS → AH → Bool} {F : Fence} {n : Nat} {Q : Exit → Act → World → Prop} {rds : Nat}
theorem drawn_main (hsub : SubOk P ent sub) (hR : Reg P nt ops l) (hrd : ∀ (i : Nat) x, l[i]? = some x → x.isRead = true → has rds i = true) (hn : n0 ≤ ws.heap.size) (hF : WF F) (hg : Good P n0 ρs Hs ws nt k (fun a w => Q .normal a w)) :
    ∀ (m : Nat) (listed : Array Bool) (ρ : Rho) (H : AH) (w : World) (S : AS) (a : Act) (hist : List Nat) (its : List It) (done : Nat) (β : Nat → Pa), listed.size = ops.size → leftOf ops listed ≤ m → Inv P nt ops l n0 ρs Hs ws ρ H w S a hist (fun q => listed.getD q false = true) β →
      (∀ q, q = freeOf l → q ∈ hist → listed.getD q false = true) → At nt ops l rds sub k S H hist its done → wpAnyIn F n P .any ops Q m listed a w := by
  intro m
  induction m with
  | zero =>
    intro listed ρ H w S a hist its done β hsz hleft hI hlast hat
    have hall : ∀ i, i < ops.size → listed.getD i false = true := fun i hi => by
      cases hq : listed.getD i true with
      | true => simpa [Array.getD, hsz, hi] using hq
      | false =>
        have : i ∈ (List.range ops.size).filter fun i => !listed.getD i true := List.mem_filter.2 ⟨List.mem_range.2 hi, by rw [hq]; rfl⟩
        have h0 : leftOf ops listed = 0 := by omega
        rw [List.eq_nil_of_length_eq_zero h0] at this
        cases this
    refine ⟨List.eq_nil_iff_forall_not_mem.2 fun i hi => ?_, drawn_done hR hI hat hall hg⟩
    obtain ⟨h1, o, ho, _⟩ := mem_ready.1 hi
    have hlt : i < ops.size := (Array.getElem?_eq_some_iff.1 ho).1
    have := hall i hlt
    have h2 : i < listed.size := by omega
    simp [Array.getD, h2] at h1 this
    rw [h1] at this; cases this
  | succ m ih =>
    intro listed ρ H w S a hist its done β hsz hleft hI hlast hat
    -- what may come up
    have canCome : ∀ i x, l[i]? = some x → ¬ (listed.getD i false = true) → (∀ q, has x.b q = true → listed.getD q false = true) → i ∈ Region.ready .any ops listed := fun i x hx hD hb => by
      obtain ⟨ho, hdo⟩ := hR.op i x hx
      refine mem_ready.2 ⟨?_, x.o, ho, fun e he hbe => ?_⟩
      · have h2 : i < listed.size := by rw [hsz, ← hR.len]; exact (List.getElem?_eq_some_iff.1 hx).1
        simp [Array.getD, h2] at hD ⊢
        exact hD
      · refine hb e.on ?_
        rw [hdo.b]
        exact aheadOf_on (by simpa using he) (by rw [bindsA_eq]; exact hbe)
    refine ⟨fun hnone => ?_, fun i hi => ?_⟩
    · by_cases hall : ∀ i, i < ops.size → listed.getD i false = true
      · exact drawn_done hR hI hat hall hg
      · exfalso
        have none : ∀ i, i ∉ Region.ready .any ops listed := fun i hi => by rw [hnone] at hi; cases hi
        by_cases hr : ∃ i, i ∈ hist ∧ ¬ (listed.getD i false = true)
        · obtain ⟨i, x, h1, h2, h3, h4⟩ := hI.hok.first (D := fun q => listed.getD q false = true) hr
          exact none i (canCome i x h3 h2 h4)
        · have hsub2 : ∀ q, q ∈ hist → listed.getD q false = true := fun q hq => Classical.byContradiction fun hn' => hr ⟨q, hq, hn'⟩
          cases its with
          | nil =>
            apply hall
            intro i hi
            apply hsub2
            have h1 := hat.plan
            rw [planOk_nil, nbeq, decide_eq_true_eq, lenL_eq] at h1
            rw [← hat.mask, h1, has_full, hR.len]
            simpa using hi
          | cons it its =>
            have go : ∀ j y, l[j]? = some y → has done j = false → sub? y.b done = true → False := fun j y hy hnd hsb => by
              refine none j (canCome j y hy (fun hh => ?_) fun q hq => hsub2 q ((hat.mask q).1 (sub_spec.1 hsb q hq)))
              rw [(hat.mask j).2 (hI.sub j hh)] at hnd; cases hnd
            cases it with
            | non j =>
              obtain ⟨y, hy, _, hnd, hsb, _⟩ := planOk_non hat.plan
              exact go j y hy hnd hsb
            | act j ag =>
              obtain ⟨y, hy, _, hnd, hsb, _⟩ := planOk_act hat.plan
              exact go j y hy hnd hsb
    · obtain ⟨hun, o, ho, hedge⟩ := mem_ready.1 hi
      have hlt : i < ops.size := (Array.getElem?_eq_some_iff.1 ho).1
      have hll : i < l.length := by rw [hR.len]; exact hlt
      have hx : l[i]? = some l[i] := List.getElem?_eq_getElem hll
      obtain ⟨ho', hdo⟩ := hR.op i _ hx
      rw [ho, Option.some.injEq] at ho'
      have h2 : i < listed.size := by omega
      have hD : ¬ (listed.getD i false = true) := by
        simp [Array.getD, h2] at hun ⊢
        exact hun
      have hb : ∀ q, has l[i].b q = true → listed.getD q false = true := fun q hq => by
        rw [hdo.b] at hq
        obtain ⟨e, he, hbe, h⟩ := aheadOf_has hq
        have hon := hedge e (by rw [ho']; simpa using he) (by rw [← bindsA_eq]; exact hbe)
        rcases h with rfl | ⟨b, hb1, hb2⟩
        · exact hon
        · rw [List.getElem?_map, Option.map_eq_some_iff] at hb1
          obtain ⟨y, hy1, rfl⟩ := hb1
          have hy2 : l[e.on]? = some y := by
            rw [List.getElem?_take] at hy1
            split at hy1
            · exact hy1
            · cases hy1
          exact hI.closed e.on y hon hy2 q hb2
      refine drawn_reach hsub hR hrd hn hF hx hD hb (fun ρ' w' a' S' H' hist' its' done' β' hI' hl' hat' => ?_) its hist done S H β hI (fun q h1 h2 => .inl (hlast q h1 h2)) hat
      have hDe : (fun q => (listed.getD q false = true) ∨ q = i) = fun q => ((listed.setIfInBounds i true).getD q false = true) := by
        funext q
        rw [getD_set' listed i q h2]
        by_cases e : q = i <;> simp [e]
      refine ih (listed.setIfInBounds i true) ρ' H' w' S' a' hist' its' done' β' (by simpa using hsz) ?_ (by rw [← hDe]; exact hI') (fun q h3 h4 => ?_) hat'
      · have : leftOf ops (listed.setIfInBounds i true) < leftOf ops listed := by
          unfold leftOf
          refine filter_lt (i := i) (fun q hq => ?_) (by rw [hun]; rfl) (by rw [getD_set' listed i i h2]; simp) (List.mem_range.2 hlt)
          rw [getD_set' listed i q h2] at hq
          by_cases e : q = i
          · simp [e] at hq
          · simpa [e] using hq
        omega
      · have := hl' q h3 h4
        have h5 := congrFun hDe q
        exact h5 ▸ this
end

theorem drawn_ok (ent : FuncId → EK) : DrawnOk P ent := by
  intro nt ops s hs F hF n sub hsub n0 ρ H w S a k Q hr hn ha h hg
  obtain ⟨l, hl, hs⟩ := ob_eq_some.1 (show ob (doL P nt ops.toList ops.toList []) (fun l => forceNat (readsD l 0) fun rds =>
    ob (plan l (lenL l) rds (Nat.succ (lenL l)) 0 []) fun its => cnd (plainD l && planOk l rds (revL its []) 0) (ob (planSteps ops.toList nt l (revL its [])) stepsF) none) = some s from hs)
  rw [forceNat_eq] at hs
  obtain ⟨its, _, hs⟩ := ob_eq_some.1 hs
  obtain ⟨hc, hs⟩ := cnd_some hs
  simp only [Bool.and_eq_true] at hc
  obtain ⟨ss, hss, hs⟩ := ob_eq_some.1 hs
  have hR := reg_of hl hc.1
  have hfalse : ∀ q, ((Array.replicate ops.size false).getD q false = true) ↔ False := fun q => by
    simp [Array.getD_eq_getD_getElem?, Array.getElem?_replicate]
    split <;> simp
  refine drawn_main (rds := readsD l 0) hsub hR (fun i x hx hrd => by have := readsD_spec (i0 := 0) i x hx hrd; rwa [Nat.zero_add] at this) hn hF hg ops.size _ ρ H w S a [] (revL its []) 0 (fun _ => .z) (by simp) ?_ ⟨Sim.refl hr, ha.1.1, ha.2, fun i h => ((hfalse i).1 h).elim, fun i x h => ((hfalse i).1 h).elim, trivial, fun t => .inr (ha.1.2 t), fun i x hi => (by cases hi), fun i j x y f g hi => (by cases hi)⟩ (fun q _ hq => by cases hq) ⟨fun i => by rw [has_zero]; simp, hc.2, ss, s, hss, hs, h⟩
  unfold leftOf
  exact Nat.le_trans (List.length_filter_le _ _) (by simp)

/-- THE MACHINE IS SOUND: a call that the abstract machine carries through, the concrete one does. -/
theorem machine_sound {ent : FuncId → EK} (hmix : P.follows .mixedOrders = true) (hent : EntOk P ent) (lv : Nat) {f : FuncId} (hf : ent f = .go) {args : List AV} {k : AV → Bool} (h : (level P ent lv).call f args ⟨.leaf, .z⟩ (fun v _ => k v) = true) {w : World} {vs : Array Value} (hv : VRs (fun _ => none) args vs.toList) {R : Ending → World → Prop}
    (hR : ∀ v v' w' ρ, k v = true → VR ρ v v' → RowKit.Below w.heap.size w w' → R (.returned v') w') : Calls P f vs w R := by
  have hr : HR P w.heap.size (fun _ => none) ⟨.leaf, .z⟩ w := ⟨⟨(fun b b' l l' h => by cases h), (fun b l h => by cases h)⟩, fun _ _ => rfl, fun _ _ => rfl⟩
  obtain ⟨_, hgo⟩ := (level_sound (drawn_ok ent) hmix hent lv).call w.heap.size (fun _ => none) ⟨.leaf, .z⟩ w f args vs (fun v _ => k v) (fun v' w' => ∃ v ρ, k v = true ∧ VR ρ v v' ∧ RowKit.Below w.heap.size w w') hr (Nat.le_refl _) hv h (fun v H' ρ' w' v' h1 h2 h3 => ⟨v, ρ', h1, h2, h3.below hr (Nat.le_refl _)⟩)
  have := (hgo hf).2 0 R (fun v' w' ⟨v, ρ, h1, h2, h3⟩ => hR v v' w' ρ h1 h2 h3)
  exact callsIn_wide.1 this
end Go.Ab
