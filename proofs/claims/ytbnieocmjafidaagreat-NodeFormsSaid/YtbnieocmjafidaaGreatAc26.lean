/- The abstract machine, 26: calls and rounds, so many levels deep. -/
import Derived.Test.YtbnieocmjafidaaGreatAc25
set_option linter.unusedVariables false
set_option linter.unusedSimpArgs false
namespace Go.Ab
variable {P : Program}

/-- What is said of the functions is so. -/
structure EntOk (P : Program) (ent : FuncId → EK) : Prop where
  name : ∀ (f : FuncId) (fn : Func), P.funcs[f]? = some fn → (fn.name == "runtime.NumGoroutine") = false
  load : ∀ f k, ent f = .load k → ∀ (a : Addr) (x : Int) (w : World), w.cell? a = some (.int k x) → (callFunc f #[.pointer (some a)]).run P w = .ok (.value (.int k x)) w
  store : ∀ f, ent f = .store → ∀ (a : Addr) (k : IntKind) (y : Int) (u : Value) (w : World), w.cell? a = some u → w.frozen? a = false → (callFunc f #[.pointer (some a), .int k y]).run P w = .ok (.value (.tuple #[])) (w.setCell a (.int k y))
  add : ∀ f k, ent f = .add k → ∀ (a : Addr) (x y : Int) (w : World), w.cell? a = some (.int k x) → w.frozen? a = false → (callFunc f #[.pointer (some a), .int k y]).run P w = .ok (.value (.int k (k.wrap (x + y)))) (w.setCell a (.int k (k.wrap (x + y))))
  known : ∀ f g, ent f = .known g → ∀ (n0 : Nat) (ρ : Rho) (H H' : AH) (w : World) (args : List AV) (vs : Array Value) (v : AV), HR P n0 ρ H w → n0 ≤ w.heap.size → VRs ρ args vs.toList → g args H = some (v, H') →
    ∀ (K : Value → World → Prop), (∀ ρ' w' v', VR ρ' v v' → Sim P n0 ρ H w ρ' H' w' → K v' w') → GoCall P f vs w K

theorem cond_isTrue {c x : Bool} (h : cond c x false = true) : c = true ∧ x = true := by
  cases c <;> simp_all
theorem setCell_sim {n0 : Nat} {ρ : Rho} {H H' : AH} {w : World} (hr : HR P n0 ρ H w) {b : Pa} {off : Nat} {l : Loc} (hb : ρ b = some l) {a : AV} {v u : Value} (hw : H.write b off [a] = some H') (hv : VR ρ a v) (h1 : v.oneCell' = true) (hc : w.cell? ⟨l.c, l.s + off, none⟩ = some u) (hz : w.frozen? ⟨l.c, l.s + off, none⟩ = false) : Sim P n0 ρ H w ρ H' (w.setCell ⟨l.c, l.s + off, none⟩ v) := by
  obtain ⟨w', h2, h3⟩ := hr.write (P := P) hb hw (as := [a]) (vs := [v]) ⟨v, [], rfl, hv, rfl⟩ (by simpa using h1)
  have : (storeCells ⟨l.c, l.s + off, none⟩ [v]).run P w = .ok () (w.setCell ⟨l.c, l.s + off, none⟩ v) := by
    have e : (⟨l.c, l.s + off, none⟩ : Addr).add 0 = ⟨l.c, l.s + off, none⟩ := by rw [addr_add]; rfl
    simp only [storeCells, Sem.run_bind, e, run_store P w _ v _ h1, hc, hz, Bool.false_eq_true, if_false, Result.andThen, Sem.run_pure]
  rw [this] at h2
  obtain ⟨_, rfl⟩ := Result.ok.inj h2
  exact h3
/-- A cell that is written was there, and no string shares it. -/
theorem write_cell {n0 : Nat} {ρ : Rho} {H H' : AH} {w : World} (hr : HR P n0 ρ H w) {b : Pa} {off : Nat} {l : Loc} (hb : ρ b = some l) {a : AV} (hw : H.write b off [a] = some H') : ∃ u, w.cell? ⟨l.c, l.s + off, none⟩ = some u ∧ w.frozen? ⟨l.c, l.s + off, none⟩ = false := by
  obtain ⟨cs, cl, hx, hw⟩ := onBlk_some hw
  obtain ⟨cs', hp, hw⟩ := ob_eq_some.1 hw
  obtain ⟨arr, el, fz, hwc, hn, hrow, hf, hcl⟩ := hr.toHQ.cellsOf hb hx
  obtain ⟨hlen, _, _⟩ := putAt_spec hp
  have hlt : off < cs.length := by
    rcases hlen with h | h
    · cases h
    · simp at h; omega
  obtain ⟨u, h1, _⟩ := hrow off cs[off] (List.getElem?_eq_getElem hlt)
  exact ⟨u, cell_of hwc h1, frozen_of hwc (fz_of hf (Array.getElem?_eq_some_iff.1 h1).1)⟩

theorem goCall_sound {ent : FuncId → EK} (hdr : DrawnOk P ent) (hmix : P.follows .mixedOrders = true) (hent : EntOk P ent) {sub : Sub} (hsub : SubOk P ent sub) {n0 : Nat} {ρ : Rho} {H : AH} {w : World} {f : FuncId} {args : List AV} {vs : Array Value} {k : AV → AH → Bool} {K : Value → World → Prop}
    (hr : HR P n0 ρ H w) (hn : n0 ≤ w.heap.size) (hv : VRs ρ args vs.toList) (h : goCall P ent sub f args H k = true) (hK : ∀ v H' ρ' w' v', k v H' = true → VR ρ' v v' → Sim P n0 ρ H w ρ' H' w' → K v' w') :
    (callFunc f vs).run P w = .ok (.enter f vs) w ∧ ∀ n (R : Ending → World → Prop), (∀ v w', K v w' → R (.returned v) w') → CallsIn Fence.wide n P f vs w R := by
  unfold goCall at h
  split at h
  · cases h
  · rename_i Fn hFn
    obtain ⟨fn, hfn, hFn⟩ := ob_eq_some.1 hFn
    obtain ⟨c, hc, hFn⟩ := ob_eq_some.1 hFn
    obtain ⟨cf, hcf, hFn⟩ := ob_eq_some.1 hFn
    obtain rfl := Option.some.inj hFn
    have h : (bif Nat.ble (lenL args) fn.ntmps then cf sub none ⟨begT args .z .leaf, []⟩ H (endK P fn.results.toList k) else false) = true := h
    cases hle : Nat.ble (lenL args) fn.ntmps with
    | false => rw [hle] at h; cases h
    | true =>
      rw [hle] at h
      simp only [cond_true] at h
      rw [lenL_eq] at hle
      have hle := Nat.le_of_ble_eq_true hle
      have hnt : ntmpsOf P f = some fn.ntmps := by unfold ntmpsOf; rw [hfn]; rfl
      refine ⟨?_, fun n R hR => ?_⟩
      · have hb : fn.body.isNone = false := by rw [hc]; rfl
        unfold callFunc
        simp only [Sem.run_bind, run_program, Result.andThen, hfn, hent.name f fn hfn, hb, Bool.false_eq_true, if_false, Sem.run_pure]
      · refine callsIn_of_wp_marks hfn hc trivial (code_sound hdr hmix hnt c cf hcf Fence.wide WF.wide none (fun _ => rfl) n sub hsub n0 ρ H w _ _ _ _ hr hn (begin_sound hv hle) h fun x S' H' ρ' a' w' e h1 h2 h3 h4 => ?_) rfl
        exact end_sound h3.hr h2 h1 (fun v H'' w'' v' g1 g2 g3 => hR _ _ (hK _ _ _ _ _ g1 g2 (h3.trans g3))) h4
theorem args1 {ρ : Rho} {x : AV} {vs : Array Value} (h : VRs ρ [x] vs.toList) : ∃ v, vs = #[v] ∧ VR ρ x v := by
  obtain ⟨v, vs', h1, h2, h3⟩ := h
  obtain rfl : vs' = [] := h3
  exact ⟨v, Array.toList_inj.1 (by simpa using h1), h2⟩
theorem args2 {ρ : Rho} {x y : AV} {vs : Array Value} (h : VRs ρ [x, y] vs.toList) : ∃ v u, vs = #[v, u] ∧ VR ρ x v ∧ VR ρ y u := by
  obtain ⟨v, vs', h1, h2, u, us', h3, h4, h5⟩ := h
  obtain rfl : us' = [] := h5
  subst h3
  exact ⟨v, u, Array.toList_inj.1 (by simpa using h1), h2, h4⟩
theorem call_sound {ent : FuncId → EK} (hdr : DrawnOk P ent) (hmix : P.follows .mixedOrders = true) (hent : EntOk P ent) {sub : Sub} (hsub : SubOk P ent sub) {n0 : Nat} {ρ : Rho} {H : AH} {w : World} {f : FuncId} {args : List AV} {vs : Array Value} {k : AV → AH → Bool} {K : Value → World → Prop}
    (hr : HR P n0 ρ H w) (hn : n0 ≤ w.heap.size) (hv : VRs ρ args vs.toList) (h : callF P ent sub f args H k = true) (hK : ∀ v H' ρ' w' v', k v H' = true → VR ρ' v v' → Sim P n0 ρ H w ρ' H' w' → K v' w') :
    GoCall P f vs w K ∧ (ent f = .go → (callFunc f vs).run P w = .ok (.enter f vs) w ∧ ∀ n (R : Ending → World → Prop), (∀ v w', K v w' → R (.returned v) w') → CallsIn Fence.wide n P f vs w R) := by
  unfold callF at h
  split at h
  · rename_i he
    have := goCall_sound hdr hmix hent hsub hr hn hv h hK
    exact ⟨.inl this, fun _ => this⟩
  · rename_i kd he
    refine ⟨?_, fun e => by rw [he] at e; cases e⟩
    unfold atomLoad at h
    split at h
    · rename_i x
      split at h
      · rename_i k' m hx
        obtain ⟨hk, hc⟩ := cond_isTrue h
        clear h
        obtain rfl := kEq_iff hk
        obtain ⟨v, rfl, hv1⟩ := args1 hv
        obtain ⟨b, off, rfl, hx⟩ := onPtr_some hx
        obtain ⟨cs, cl, hget, hx⟩ := onBlk_some hx
        rw [nthL_eq] at hx
        obtain ⟨l, hl, rfl⟩ := hv1
        obtain ⟨u, h1, h2, _⟩ := hr.toHQ.cell hl hget hx
        obtain rfl : u = .int kd m := h2
        exact .inr ⟨_, _, hent.load f kd he _ m w h1, hK _ _ _ _ _ hc rfl (Sim.refl hr)⟩
      · cases h
    · cases h
  · rename_i he
    refine ⟨?_, fun e => by rw [he] at e; cases e⟩
    unfold atomStore at h
    split at h
    · rename_i b off kd m
      split at h
      · rename_i H' hw
        obtain ⟨v, u, rfl, hv, hu⟩ := args2 hv
        obtain ⟨l, hl, rfl⟩ := hv
        obtain rfl : u = .int kd m := hu
        obtain ⟨q, hq1, hq2⟩ := write_cell hr hl hw
        exact .inr ⟨_, _, hent.store f he _ kd m q w hq1 hq2, hK _ _ _ _ _ h ⟨#[], rfl, rfl⟩ (setCell_sim hr hl hw rfl rfl hq1 hq2)⟩
      · cases h
    · cases h
  · rename_i kd he
    refine ⟨?_, fun e => by rw [he] at e; cases e⟩
    unfold atomAdd at h
    split at h
    · rename_i b off k' y
      split at h
      · rename_i k'' x hx
        obtain ⟨hk, hc⟩ := cond_isTrue h
        clear h
        simp only [Bool.and_eq_true] at hk
        obtain rfl := kEq_iff hk.1
        obtain rfl := kEq_iff hk.2
        split at hc
        · rename_i H' hw
          obtain ⟨v, u, rfl, hv, hu⟩ := args2 hv
          obtain ⟨l, hl, rfl⟩ := hv
          obtain rfl : u = .int kd y := hu
          obtain ⟨cs, cl, hget, hx⟩ := onBlk_some hx
          rw [nthL_eq] at hx
          obtain ⟨u, h1, h2, _⟩ := hr.toHQ.cell hl hget hx
          obtain rfl : u = .int kd x := h2
          obtain ⟨q, hq1, hq2⟩ := write_cell hr hl hw
          rw [wrapF_eq, addI_eq] at hc hw
          exact .inr ⟨_, _, hent.add f kd he _ x y w h1 hq2, hK _ _ _ _ _ hc rfl (setCell_sim hr hl hw rfl rfl hq1 hq2)⟩
        · cases hc
      · cases h
    · cases h
  · rename_i g he
    refine ⟨?_, fun e => by rw [he] at e; cases e⟩
    split at h
    · rename_i p hp
      exact hent.known f g he n0 ρ H p.2 w args vs p.1 hr hn hv hp K fun ρ' w' v' h1 h2 => hK _ _ _ _ _ h h1 h2
    · cases h
  · cases h

theorem putAll_sound {ρ : Rho} {n : Nat} : ∀ {ps : List Tmp} {as : List AV} {vs : List Value} {T T' : PT AV} {tmps : Array Value}, TR ρ T n tmps → VRs ρ as vs → putAll ps n as T = some T' → ps.length = vs.length ∧ TR ρ T' n ((ps.zip vs).foldl (fun tmps (t, a) => tmps.setIfInBounds t a) tmps)
  | [], as, vs, T, T', tmps, ht, hv, h => by
    cases as with
    | nil =>
      obtain rfl : vs = [] := hv
      obtain rfl := Option.some.inj (show some T = some T' from h)
      exact ⟨rfl, ht⟩
    | cons a as => cases (show (none : Option (PT AV)) = some T' from h)
  | p :: ps, as, vs, T, T', tmps, ht, hv, h => by
    cases as with
    | nil => cases (show (none : Option (PT AV)) = some T' from h)
    | cons a as =>
      obtain ⟨v, vs', rfl, h1, h2⟩ := hv
      obtain ⟨h3, h4⟩ := cond_some (show (bif Nat.blt p n then putAll ps n as (T.put (Pa.ofNat p) a) else none) = some T' from h)
      rw [nblt, decide_eq_true_eq] at h3
      obtain ⟨h5, h6⟩ := putAll_sound (ht.put h3 h1) h2 h4
      exact ⟨by simp [h5], h6⟩
theorem round_sound {ent : FuncId → EK} (hdr : DrawnOk P ent) (hmix : P.follows .mixedOrders = true) {sub : Sub} (hsub : SubOk P ent sub) {n0 : Nat} {ρ : Rho} {H : AH} {w : World} {l : Pa} {lc : Loc} {args : List AV} {vs : Array Value} {k : AV → AH → Bool} {K : Value → World → Prop}
    (hr : HR P n0 ρ H w) (hn : n0 ≤ w.heap.size) (hl : ρ l = some lc) (hv : VRs ρ args vs.toList) (h : roundF P ent sub l args H k = true) (hK : ∀ v H' ρ' w' v', k v H' = true → VR ρ' v v' → Sim P n0 ρ H w ρ' H' w' → K v' w') : GoRound P lc.c vs w K := by
  unfold roundF at h
  split at h
  · rename_i pe fn T ps asg body d hget
    split at h
    · cases h
    · rename_i nt hnt
      split at h
      · cases h
      · rename_i fa hfa
        split at h
        · cases h
        · rename_i fb hfb
          split at h
          · cases h
          · rename_i T' hput
            obtain ⟨_, o, ho, hbr⟩ := hr.blk _ _ hl
            obtain ⟨r, rfl, e1, e2, ⟨nt', hnt', ht⟩, e4, e5, e6, e7⟩ := hbr _ hget
            rw [hnt, Option.some.injEq] at hnt'
            subst hnt'
            obtain ⟨hlen, ht'⟩ := putAll_sound ht hv hput
            have hsz : vs.size = r.params.size := by rw [← e4] at hlen; simpa using hlen.symm
            refine ⟨r, ho, hsz, fun n R hR => ?_⟩
            refine roundIn_of_wpIn trivial ?_
            have hF := WF.wide.inRound lc.c
            have htm : (r.params.zip vs).foldl (fun tmps (t, a) => tmps.setIfInBounds t a) r.tmps = (ps.zip vs.toList).foldl (fun tmps (t, a) => tmps.setIfInBounds t a) r.tmps := by
              rw [← e4, ← Array.foldl_toList, Array.toList_zip]
            rw [htm, e5, e6]
            refine code_sound hdr hmix hnt asg fa hfa _ hF (some l) (fun h => by cases h) n sub hsub n0 ρ H w ⟨T', []⟩ _ _ _ hr hn ⟨ht', rfl⟩ h fun x S' H' ρ' a' w' e h1 h2 h3 h4 => ?_
            cases x with
            | exit id => cases h1
            | ret => cases h1
            | normal =>
              obtain rfl := h4
              have h1 : (match H'.get l with
                | some (.loop st pe fn t ps a b d) => (match st with
                  | .ready => fb sub (some l) S' (H'.set l (.loop .busy pe fn t ps a b d)) (roundEnd l k)
                  | _ => false)
                | _ => false) = true := h1
              split at h1
              · rename_i st pe2 fn2 T2 ps2 a2 b2 d2 hget2
                split at h1
                · have hl' := h3.le _ _ hl
                  obtain ⟨_, o2, ho2, hbr2⟩ := h3.hr.blk _ _ hl'
                  obtain ⟨r2, rfl, q1, q2, q3, q4, q5, q6, q7⟩ := hbr2 _ hget2
                  refine ⟨_, run_beginRound ho2 q1, ?_⟩
                  have s3 := Sim.put (o' := .loop { r2 with state := .busy }) (x := .loop .busy pe2 fn2 T2 ps2 a2 b2 d2) h3.hr hl' (by rw [hget2]; simp) ho2 ⟨_, rfl, rfl, q2, q3, q4, q5, q6, q7⟩
                  refine code_sound hdr hmix hnt body fb hfb _ hF (some l) (fun h => by cases h) n sub hsub n0 ρ' _ _ S' a' _ _ s3.hr (Nat.le_trans hn (Nat.le_trans h3.size s3.size)) h2 h1 fun x S3 H3 ρ3 a3 w3 e g1 g2 g3 g4 => ?_
                  have hsim := (h3.trans s3).trans g3
                  unfold roundEnd at g1
                  split at g1
                  · rename_i st3 pe3 fn3 T3 ps3 as3 b3 d3 hget3
                    have hl3 := hsim.le _ _ hl
                    obtain ⟨_, o3, ho3, hbr3⟩ := g3.hr.blk _ _ hl3
                    obtain ⟨r3, rfl, p1, p2, p3, p4, p5, p6, p7⟩ := hbr3 _ hget3
                    have hlive3 : H3.get l ≠ some .dead := by rw [hget3]; simp
                    cases x with
                    | normal =>
                      obtain rfl := g4
                      refine ⟨_, _, run_endRound none ho3, hR _ _ (hK _ _ _ _ _ g1 rfl (hsim.trans (Sim.put g3.hr hl3 hlive3 ho3 ⟨_, rfl, rfl, rfl, p3, p4, p5, p6, p7⟩)))⟩
                    | ret =>
                      obtain rfl := g4
                      refine ⟨_, _, run_endRound (some .ret) ho3, hR _ _ (hK _ _ _ _ _ g1 rfl (hsim.trans (Sim.put g3.hr hl3 hlive3 ho3 ⟨_, rfl, rfl, rfl, p3, p4, p5, p6, p7⟩)))⟩
                    | exit id =>
                      obtain rfl := g4
                      refine ⟨_, _, run_endRound (some (.exit id)) ho3, hR _ _ (hK _ _ _ _ _ g1 rfl (hsim.trans (Sim.put g3.hr hl3 hlive3 ho3 ⟨_, rfl, rfl, rfl, p3, p4, p5, p6, p7⟩)))⟩
                  · cases g1
                · cases h1
              · cases h1
  · cases h
theorem level_sound {ent : FuncId → EK} (hdr : DrawnOk P ent) (hmix : P.follows .mixedOrders = true) (hent : EntOk P ent) : ∀ n, SubOk P ent (level P ent n)
  | 0 => ⟨fun n0 ρ H w f args vs k K hr hn hv h hK => (by cases h), fun n0 ρ H w l lc args vs k K hr hn hl hv h hK => (by cases h)⟩
  | n + 1 => ⟨fun n0 ρ H w f args vs k K hr hn hv h hK => call_sound hdr hmix hent (level_sound hdr hmix hent n) hr hn hv h hK,
    fun n0 ρ H w l lc args vs k K hr hn hl hv h hK => round_sound hdr hmix (level_sound hdr hmix hent n) hr hn hl hv h hK⟩
end Go.Ab
