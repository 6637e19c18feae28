/- The abstract machine, 24: how a function ends. -/
import Derived.Test.YtbnieocmjafidaaGreatAc23
set_option linter.unusedVariables false
set_option linter.unusedSimpArgs false
namespace Go.Ab
variable {P : Program}

/-- How code is left. -/
def XR : AX → Exit → Prop
  | .normal, e => e = .normal
  | .exit id, e => e = .exit id
  | .ret, e => e = .ret

theorem res_one {ρ : Rho} {n0 : Nat} {H : AH} {w : World} (hr : HQ P n0 ρ H w) {S : AS} {nt : Nat} {tmps : Array Value} (ht : TR ρ S.t nt tmps) {r : ResultVar} {v : AV} (h : (match r with
  | .tmp t => some (someV (S.t.get (Pa.ofNat t)))
  | .cell a t => ob (partOf P t) fun f => onPtr (fun b off => onBlk (fun cs _ => f off cs) none (H.get b)) none (someV (S.t.get (Pa.ofNat a)))) = some v) :
    ∃ v', (match r with | .tmp t => (pure (tmps.getD t undef) : Sem Value) | .cell a t => do loadVar t (← asAddr (tmps.getD a undef))).run P w = .ok v' w ∧ VR ρ v v' := by
  cases r with
  | tmp t =>
    obtain rfl := Option.some.inj h
    exact ⟨_, rfl, ht.2 t⟩
  | cell a t =>
    obtain ⟨f, hf, h⟩ := ob_eq_some.1 h
    obtain ⟨v', h1, h2⟩ := load_sound hf hr (ht.2 a) h
    refine ⟨v', ?_, h2⟩
    obtain ⟨b, off, hX, _⟩ := onPtr_some h
    have h3 := ht.2 a
    rw [hX] at h3
    obtain ⟨l, _, h4⟩ := h3
    rw [h4] at h1
    show Sem.run P (asAddr (tmps.getD a undef) >>= fun x => loadVar t x) w = _
    rw [h4]
    exact h1
theorem res_all {ρ : Rho} {n0 : Nat} {H : AH} {w : World} (hr : HQ P n0 ρ H w) {S : AS} {nt : Nat} {tmps : Array Value} (ht : TR ρ S.t nt tmps) : ∀ {l : List ResultVar} {vs : List AV}, resA P S H l = some vs →
    ∃ us : List Value, (l.mapM fun (r : ResultVar) => (match r with | .tmp t => (pure (tmps.getD t undef) : Sem Value) | .cell a t => do loadVar t (← asAddr (tmps.getD a undef)))).run P w = .ok us w ∧ VRs ρ vs us
  | [], vs, h => by
    obtain rfl := Option.some.inj (show some [] = some vs from h)
    exact ⟨[], rfl, rfl⟩
  | r :: l, vs, h => by
    obtain ⟨v, hv, h⟩ := ob_eq_some.1 h
    obtain ⟨vs', hvs, h⟩ := ob_eq_some.1 h
    obtain rfl := Option.some.inj h
    obtain ⟨v', h1, h2⟩ := res_one hr ht hv
    obtain ⟨us, h3, h4⟩ := res_all hr ht hvs
    refine ⟨v' :: us, ?_, v', us, rfl, h2, h4⟩
    rw [List.mapM_cons, Sem.run_bind, h1]
    simp only [Result.andThen, Sem.run_bind, h3]
    rfl
theorem results_sound {fn : Func} {ρ : Rho} {n0 : Nat} {H : AH} {w : World} (hr : HQ P n0 ρ H w) {S : AS} {nt : Nat} {tmps : Array Value} (ht : TR ρ S.t nt tmps) {l : List AV} (h : resA P S H fn.results.toList = some l) :
    ∃ v', (results fn tmps).run P w = .ok v' w ∧ ∀ v, (match l with | [] => AV.tuple [] | [v] => v | l => .tuple l) = v → VR ρ v v' := by
  obtain ⟨us, h1, h2⟩ := res_all hr ht h
  have hm : (fn.results.mapM fun (r : ResultVar) => (match r with | .tmp t => (pure (tmps.getD t undef) : Sem Value) | .cell a t => do loadVar t (← asAddr (tmps.getD a undef)))).run P w = .ok us.toArray w := by
    rw [Array.mapM_eq_mapM_toList, ← bind_pure_comp, Sem.run_bind, h1]
    rfl
  refine ⟨if h : us.toArray.size = 1 then us.toArray[0] else .tuple us.toArray, ?_, fun v hv => ?_⟩
  · unfold results
    rw [Sem.run_bind]
    refine (congrArg (fun r => Result.andThen r _) hm).trans ?_
    rfl
  · subst hv
    cases l with
    | nil => obtain rfl : us = [] := h2; exact ⟨#[], rfl, rfl⟩
    | cons v l =>
      obtain ⟨u, us', rfl, h3, h4⟩ := h2
      cases l with
      | nil => obtain rfl : us' = [] := h4; exact h3
      | cons v2 l =>
        obtain ⟨u2, us2, rfl, h5, h6⟩ := h4
        have : ¬ ((u :: u2 :: us2).toArray.size = 1) := by simp
        rw [dif_neg this]
        exact ⟨_, rfl, u, _, rfl, h3, u2, _, rfl, h5, h6⟩
theorem HQ.deferredOf {n0 : Nat} {ρ : Rho} {H : AH} {w : World} (hr : HQ P n0 ρ H w) {b : Pa} {l : Loc} {op : Bool} (hb : ρ b = some l) (hx : H.get b = some (.deferred op)) : w.heap[l.c]? = some (.deferred (if op then some [] else none)) := by
  obtain ⟨_, o, h2, h3⟩ := hr.blk b l hb
  have := h3 _ hx
  rw [h2, this]
theorem leaves_sound {F : Fence} {n : Nat} {fn : Func} {tmps : Array Value} {R : Ending → World → Prop} : ∀ {ps : List Pa} {ds : List Deferred} {n0 : Nat} {ρ : Rho} {H H1 : AH} {w : World}, HR P n0 ρ H w → DR ρ ps ds → closeA ps H = some H1 →
    (∀ w', Sim P n0 ρ H w ρ H1 w' → ∃ v, (results fn tmps).run P w' = .ok v w' ∧ R (.returned v) w') → LeavesInM F n P fn tmps R ds .returning w
  | [], ds, n0, ρ, H, H1, w, hr, hd, hc, h => by
    obtain rfl : ds = [] := hd
    obtain rfl := Option.some.inj (show some H = some H1 from hc)
    exact h w (Sim.refl hr)
  | p :: ps, ds, n0, ρ, H, H1, w, hr, hd, hc, h => by
    obtain ⟨l, ds', h1, rfl, h3⟩ := hd
    have hc : (match H.get p with
      | some (.deferred op) => bif op then closeA ps (H.set p (.deferred false)) else none
      | _ => none) = some H1 := hc
    split at hc
    · rename_i op hget
      obtain ⟨hop, hc⟩ := cond_some hc
      subst hop
      have hw := hr.toHQ.deferredOf h1 hget
      have hs := Sim.put (o' := .deferred none) (x := .deferred false) hr h1 (by rw [hget]; simp) hw rfl
      refine ⟨by simp, .inl ⟨l.c, _, rfl, run_takeDeferred hw, leaves_sound hs.hr h3 hc fun w' hs' => h w' (hs.trans hs')⟩⟩
    · cases hc
/-- The end of a function's body. -/
theorem end_sound {F : Fence} {m : Nat} {fn : Func} {R : Ending → World → Prop} {k : AV → AH → Bool} {x : AX} {S : AS} {n0 : Nat} {ρ : Rho} {H : AH} {w : World} (hr : HR P n0 ρ H w) {nt : Nat} {a : Act} (ha : AR ρ nt S a) (h : endK P fn.results.toList k x S H = true)
    (hR : ∀ v H' w' v', k v H' = true → VR ρ v v' → Sim P n0 ρ H w ρ H' w' → R (.returned v') w') {e : Exit} (he : XR x e) : bodyPostM F m P fn R e a w := by
  have go : endF P fn.results.toList k S H = true → LeavesInM F m P fn a.tmps R a.defers .returning w := fun h => by
    unfold endF at h
    split at h
    · cases h
    · rename_i H1 hc
      refine leaves_sound hr ha.2 hc fun w' hs => ?_
      split at h
      · cases h
      · rename_i l hl
        obtain ⟨v', h1, h2⟩ := results_sound (fn := fn) hs.hr.toHQ ha.1 hl
        refine ⟨v', h1, ?_⟩
        cases l with
        | nil => exact hR _ _ _ _ h (h2 _ rfl) hs
        | cons v r => cases r with
          | nil => exact hR _ _ _ _ h (h2 _ rfl) hs
          | cons v2 r => exact hR _ _ _ _ h (h2 _ rfl) hs
  cases x with
  | normal => obtain rfl := he; exact go h
  | ret => obtain rfl := he; exact go h
  | exit id => cases h
theorem begT_spec : ∀ (args : List AV) (i : Pa) (T : PT AV) (t : Nat), (begT args i T).get (Pa.ofNat t) = if i.toNat ≤ t ∧ t < i.toNat + args.length then args[t - i.toNat]? else T.get (Pa.ofNat t)
  | [], i, T, t => by
    show T.get _ = _
    rw [if_neg (by simp)]
  | a :: args, i, T, t => by
    show (begT args i.succ (T.put i a)).get (Pa.ofNat t) = _
    rw [begT_spec args, PT.get_put, Pa.toNat_succ]
    by_cases e : t = i.toNat
    · subst e
      rw [if_neg (by omega), if_pos (by
        apply Pa.toNat_inj; rw [Pa.toNat_ofNat]), if_pos (by simp)]
      simp
    · have hne : Pa.ofNat t ≠ i := fun h => e (by rw [← h, Pa.toNat_ofNat])
      rw [if_neg hne]
      by_cases h2 : i.toNat + 1 ≤ t ∧ t < i.toNat + 1 + args.length
      · rw [if_pos h2, if_pos (by simp; omega)]
        rw [show t - i.toNat = (t - (i.toNat + 1)) + 1 by omega]
        simp
      · rw [if_neg h2, if_neg (by simp; omega)]
theorem begin_sound {ρ : Rho} {args : List AV} {vs : Array Value} (h : VRs ρ args vs.toList) {nt : Nat} (hle : args.length ≤ nt) : AR ρ nt ⟨begT args .z .leaf, []⟩ { tmps := vs ++ Array.replicate (nt - vs.size) undef, defers := [] } := by
  have hl : vs.size = args.length := by simpa using VRs_length h
  refine ⟨⟨by simp; omega, fun t => ?_⟩, rfl⟩
  rw [begT_spec]
  show VR ρ (someV (if 0 ≤ t ∧ t < 0 + args.length then args[t - 0]? else none)) _
  by_cases ht : t < args.length
  · rw [if_pos (by omega)]
    obtain ⟨v, h1, h2⟩ := VRs_get h t args[t] (List.getElem?_eq_getElem ht)
    simp only [Nat.sub_zero, List.getElem?_eq_getElem ht]
    have h3 : (vs ++ Array.replicate (nt - vs.size) undef).getD t undef = v := by
      have h4 : vs[t]? = some v := by simpa using h1
      rw [Array.getD_eq_getD_getElem?, Array.getElem?_append_left (by omega), h4]
      rfl
    rw [h3]
    exact h2
  · rw [if_neg (by omega)]
    trivial
end Go.Ab
