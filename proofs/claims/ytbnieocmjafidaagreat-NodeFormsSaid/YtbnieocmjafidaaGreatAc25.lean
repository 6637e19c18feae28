/- The abstract machine, 25: code, calls, rounds. -/
import Derived.Test.YtbnieocmjafidaaGreatAc24
set_option linter.unusedVariables false
set_option linter.unusedSimpArgs false
namespace Go.Ab
variable {P : Program}

/-- A region that draws its order is sound. -/
def DrawnOk (P : Program) (ent : FuncId → EK) : Prop :=
  ∀ (nt : Nat) (ops : Array Oper) (s : StepF), compDrawn P nt ops.toList = some s → ∀ (F : Fence), WF F → ∀ (n : Nat) (sub : Sub), SubOk P ent sub → ∀ (n0 : Nat) (ρ : Rho) (H : AH) (w : World) (S : AS) (a : Act) (k : AS → AH → Bool) (Q : Exit → Act → World → Prop), HR P n0 ρ H w → n0 ≤ w.heap.size → AR ρ nt S a →
    s sub S H k = true → Good P n0 ρ H w nt k (fun a w => Q .normal a w) → wpAnyIn F n P .any ops Q ops.size (Array.replicate ops.size false) a w

theorem wpIn_loopJ {F : Fence} {n : Nat} {c : Code} {Q : Exit → Act → World → Prop} {I : Nat → Act → World → Prop} (h0 : ∀ a w, ¬ I 0 a w) (round : ∀ j a w, I (j + 1) a w → c.wpIn F n P (Exit.then (fun a' w' => I j a' w') Q) a w) (j : Nat) (a : Act) (w : World) (hI : I j a w) : (Code.loop c).wpIn F n P Q a w := by
  intro b k cs hro hb hr
  have key : ∀ j a w, I j a w → ∃ e a' w', Q e a' w' ∧ ArrivesIn (Machine.fenced P F) P (lone (b.atR a (.code c :: .inLoop c :: k)) cs w) b k cs e a' w' := by
    intro j
    induction j with
    | zero => intro a w hI; exact absurd hI (h0 a w)
    | succ j ih =>
      intro a w hI
      obtain ⟨e, a₁, w₁, hq, harr⟩ := round j a w hI b (.inLoop c :: k) cs hro hb hr
      by_cases he : e = .normal
      · subst he
        obtain ⟨e₂, a₂, w₂, hq₂, harr₂⟩ := ih a₁ w₁ hq
        exact ⟨e₂, a₂, w₂, hq₂, .of_steps (StepsIn.trans harr (.one (fenced_calm hb hr rfl) stepR_inLoop)) harr₂⟩
      · refine ⟨e, a₁, w₁, ?_, .pass (x := .inLoop c) rfl (fun _ _ => .inl he) harr⟩
        cases e <;> first | exact absurd rfl he | exact hq
  obtain ⟨e, a', w', hq, harr⟩ := key j a w hI
  exact ⟨e, a', w', hq, .of_steps (.one (fenced_calm hb hr rfl) stepR_loop) harr⟩

def KGood (P : Program) (n0 : Nat) (ρ : Rho) (H : AH) (w : World) (nt : Nat) (k : KC) (Q : Exit → Act → World → Prop) : Prop :=
  ∀ x S' H' ρ' a' w' e, k x S' H' = true → AR ρ' nt S' a' → Sim P n0 ρ H w ρ' H' w' → XR x e → Q e a' w'
theorem KGood.trans {n0 : Nat} {ρ : Rho} {H : AH} {w : World} {nt : Nat} {k : KC} {Q : Exit → Act → World → Prop} (h : KGood P n0 ρ H w nt k Q) {ρ' : Rho} {H' : AH} {w' : World} (hs : Sim P n0 ρ H w ρ' H' w') : KGood P n0 ρ' H' w' nt k Q :=
  fun x S'' H'' ρ'' a'' w'' e hk ha hs' hx => h _ _ _ _ _ _ _ hk ha (hs.trans hs') hx
/-- What is kept of a piece of code is what it does. -/
def CodeOk (P : Program) (ent : FuncId → EK) (nt : Nat) (c : Code) (cf : CF) : Prop :=
  ∀ (F : Fence), WF F → ∀ (rd : Option Pa), (rd = none → F.round = none) → ∀ (n : Nat) (sub : Sub), SubOk P ent sub → ∀ (n0 : Nat) (ρ : Rho) (H : AH) (w : World) (S : AS) (a : Act) (k : KC) (Q : Exit → Act → World → Prop), HR P n0 ρ H w → n0 ≤ w.heap.size → AR ρ nt S a →
    cf sub rd S H k = true → KGood P n0 ρ H w nt k Q → c.wpIn F n P Q a w

theorem steps_sound {ent : FuncId → EK} {nt : Nat} {ops : Array Oper} {F : Fence} (hF : WF F) {n : Nat} {sub : Sub} (hsub : SubOk P ent sub) {Q : Exit → Act → World → Prop} : ∀ (l : List Oper) (i : Nat), (∀ j o, l[j]? = some o → ops[i + j]? = some o) → ∀ {ss : List StepF} {s : StepF}, mapO (compStep P nt ops.toList) l = some ss → stepsF ss = some s →
    ∀ {n0 : Nat} {ρ : Rho} {H : AH} {w : World} {S : AS} {a : Act} {k : AS → AH → Bool}, HR P n0 ρ H w → n0 ≤ w.heap.size → AR ρ nt S a → s sub S H k = true → Good P n0 ρ H w nt k (fun a w => Q .normal a w) → wpOpsIn F n P ops Q ((List.range l.length).map (i + ·)) a w
  | [], i, _, ss, s, hss, hs, n0, ρ, H, w, S, a, k, hr, hn, ha, h, hg => by
    obtain rfl := Option.some.inj (show some [] = some ss from hss)
    obtain rfl := Option.some.inj (show some nilS = some s from hs)
    exact hg S H ρ a w h ha (Sim.refl hr)
  | o :: l, i, hl, ss, s, hss, hs, n0, ρ, H, w, S, a, k, hr, hn, ha, h, hg => by
    obtain ⟨st, hst, hss⟩ := ob_eq_some.1 hss
    obtain ⟨ss', hss', hss⟩ := ob_eq_some.1 hss
    obtain rfl := Option.some.inj hss
    obtain ⟨r, hrr, hs⟩ := ob_eq_some.1 (show ob (stepsF ss') (fun r => some (consS st r)) = some s from hs)
    obtain rfl := Option.some.inj hs
    have h : st sub S H (fun S H => r sub S H k) = true := h
    obtain ⟨Fo, hFo, hst⟩ := ob_eq_some.1 hst
    obtain ⟨d, hd, hst⟩ := ob_eq_some.1 hst
    obtain ⟨q, hq, hst⟩ := ob_eq_some.1 hst
    have hO := compOpT_sound o Fo hFo
    rw [List.length_cons, List.range_succ_eq_map, List.map_cons, List.map_map]
    have hoi : ops[i + 0]? = some o := hl 0 o rfl
    have rest : Good P n0 ρ H w nt (fun S H => r sub S H k) (wpOpsIn F n P ops Q (((List.range l.length).map ((i + ·) ∘ Nat.succ)))) := fun S' H' ρ' a' w' hk' ha' hs' => by
      have : (List.range l.length).map ((i + ·) ∘ Nat.succ) = (List.range l.length).map ((i + 1) + ·) := by
        apply List.map_congr_left; intro j _; simp [Function.comp]; omega
      rw [this]
      exact steps_sound hF hsub l (i + 1) (fun j o hj => by rw [show i + 1 + j = i + (j + 1) by omega]; exact hl (j + 1) o (by simpa using hj)) hss' hrr hs'.hr (Nat.le_trans hn hs'.size) ha' hk' (hg.trans hs')
    rw [wpOpsIn_cons]
    unfold wpOpIn
    rw [hoi]
    simp only
    rcases guard_sound hst h (ρ := ρ) (tmps := a.tmps) (fun j t _ _ _ => ha.1.2 t) with ⟨hw, h1⟩ | ⟨hw, h1⟩
    · rw [if_pos hw]
      exact step_sound hsub hF hO hd hq hr hn ha h1 rest
    · rw [if_neg (by rw [hw]; simp)]
      refine ⟨fun f _ => hF.fn f, ?_⟩
      have h2 : (fun S H => r sub S H k) ⟨putD d undefA S.t, S.d⟩ H = true := by rcases h1 with h1 | h1 <;> exact h1
      exact rest _ _ _ _ _ h2 (ha.put hd (undef_VR ρ)) (Sim.refl hr)

theorem rf_sound {ent : FuncId → EK} {nt : Nat} {fn : FuncId} (hnt : ntmpsOf P fn = some nt) {g : Operand} {pg : Opd} (hg : opE g = some pg) {ps : Array Tmp} {asg body : Code} : CodeOk P ent nt (.rangeFunc g ps asg body) (rfF ent fn pg ps.toList asg body) := by
  intro F hF rd hrd n sub hsub n0 ρ H w S a k Q hr hn ha h hk
  cases rd with
  | some l => cases h
  | none =>
    have hro := hrd rfl
    have h : rfGo ent pg sub H.nx.succ S ⟨S.t, H.nx :: S.d⟩ ((H.new (.deferred true)).new (.loop .ready none fn S.t ps.toList asg body H.nx)) k = true := h
    unfold rfGo at h
    split at h
    · rename_i f cap hG
      split at h
      · rename_i hent
        have hg1 := OR.of_TR ha.1 g pg hg
        rw [hG] at hg1
        obtain ⟨cvs, he, hcv⟩ := hg1
        refine wpIn_rangeFunc fun fn' _ => ?_
        rw [hro]
        -- the two blocks
        have s1 : Sim P n0 ρ H w _ _ _ := Sim.lay (n := 0) (x := .deferred true) (o := .deferred (some [])) hr hn rfl
        have hnx : (H.new (.deferred true)).nx = H.nx.succ := rfl
        have s2 := Sim.lay (n := 0) (x := .loop .ready none fn S.t ps.toList asg body H.nx) (o := .loop { state := .ready, pending := none, fn := fn', tmps := a.tmps, params := ps, assign := asg, body, defers := w.heap.size }) s1.hr (Nat.le_trans hn s1.size)
          ⟨_, rfl, rfl, rfl, ⟨nt, hnt, ha.1.mono s1.le⟩, rfl, rfl, rfl, ⟨w.heap.size, 0, 0⟩, by simp [Rho.add], rfl⟩
        have hsim := s1.trans s2
        have hsz : (w.alloc (.deferred (some []))).heap.size = w.heap.size + 1 := by simp
        rw [hsz] at s2 hsim
        rw [hnx] at s2 hsim
        generalize hρ : ((ρ.add H.nx ⟨w.heap.size, 0, 0⟩).add H.nx.succ ⟨w.heap.size + 1, 0, 0⟩) = ρ2 at *
        have hl2 : ρ2 H.nx.succ = some ⟨w.heap.size + 1, 0, 0⟩ := by rw [← hρ]; simp [Rho.add]
        have hne : H.nx ≠ H.nx.succ := fun e => by have := congrArg Pa.toNat e; rw [Pa.toNat_succ] at this; omega
        have hd2 : ρ2 H.nx = some ⟨w.heap.size, 0, 0⟩ := by rw [← hρ]; simp [Rho.add, hne]
        generalize hw2 : ((w.alloc (.deferred (some []))).alloc (.loop { state := .ready, pending := none, fn := fn', tmps := a.tmps, params := ps, assign := asg, body, defers := w.heap.size })) = w2 at *
        generalize hH2 : ((H.new (.deferred true)).new (.loop .ready none fn S.t ps.toList asg body H.nx)) = H2 at *
        have ha2 : AR ρ2 nt ⟨S.t, H.nx :: S.d⟩ { a with defers := [{ target := .collected w.heap.size, args := #[] }] ++ a.defers } := ⟨ha.1.mono hsim.le, ⟨w.heap.size, 0, 0⟩, a.defers, hd2, rfl, ha.2.mono hsim.le⟩
        have hargs : VRs ρ2 (.yield H.nx.succ :: cap) (#[Value.func (.yield (w.heap.size + 1)) #[] #[]] ++ cvs).toList := by
          simp only [Array.toList_append, List.cons_append, List.nil_append]
          exact ⟨_, _, rfl, ⟨_, hl2, rfl⟩, VRs.mono hsim.le _ _ hcv⟩
        obtain ⟨_, hgo⟩ := hsub.call n0 ρ2 H2 w2 f _ _ (endLoopK H.nx.succ ⟨S.t, H.nx :: S.d⟩ k) (fun _ w' => rangePost F n P (w.heap.size + 1) Q { a with defers := [{ target := .collected w.heap.size, args := #[] }] ++ a.defers } (.returned undef) w') hsim.hr (Nat.le_trans hn hsim.size) hargs h
          (fun v H' ρ' w' v' hk' hv' hs' => by
            unfold endLoopK at hk'
            split at hk'
            · rename_i st pe fn2 T ps2 a2 b2 d2 hget
              have hlp := hs'.le _ _ hl2
              obtain ⟨_, o, ho, hbr⟩ := hs'.hr.blk _ _ hlp
              obtain ⟨r, rfl, e1, e2, e3, e4, e5, e6, e7⟩ := hbr _ hget
              have fin : st ≠ .busy → ∃ w4, (Instr.endLoop (w.heap.size + 1)).run P w' = .ok r.pending w4 ∧ Sim P n0 ρ2 H2 w2 ρ' (H'.set H.nx.succ (.loop .exhausted pe fn2 T ps2 a2 b2 d2)) w4 := fun hst => by
                refine ⟨_, run_endLoop ho (by rw [e1]; exact hst), hs'.trans (Sim.put hs'.hr hlp (by rw [hget]; simp) ho ⟨_, rfl, rfl, e2, e3, e4, e5, e6, e7⟩)⟩
              have fin2 : ∀ x S' H'' w4 e, k x S' H'' = true → S' = ⟨S.t, H.nx :: S.d⟩ → Sim P n0 ρ2 H2 w2 ρ' H'' w4 → XR x e → Q e { a with defers := [{ target := .collected w.heap.size, args := #[] }] ++ a.defers } w4 := fun x S' H'' w4 e h1 h2 h3 h4 => by
                subst h2
                exact hk _ _ _ _ _ _ _ h1 (ha2.mono h3.le) (hsim.trans h3) h4
              split at hk'
              · cases hk'
              · rename_i hst
                obtain ⟨w4, g1, g2⟩ := fin (by intro e; exact hst e)
                rw [e2] at g1
                refine ⟨pe, w4, g1, ?_⟩
                split at hk'
                · exact fin2 _ _ _ _ _ hk' rfl g2 rfl
                · exact wpIn_ret (fin2 _ _ _ _ _ hk' rfl g2 rfl)
                · exact wpIn_exit (fin2 _ _ _ _ _ hk' rfl g2 rfl)
                · cases hk'
            · cases hk')
        obtain ⟨hcall, hcalls⟩ := hgo hent
        refine ⟨w.heap.size + 1, [{ target := .collected w.heap.size, args := #[] }], w2, { target := .fn (.func f) cvs, args := #[Value.func (.yield (w.heap.size + 1)) #[] #[]] }, w2, f, #[Value.func (.yield (w.heap.size + 1)) #[] #[]] ++ cvs, w2, ?_, ?_, fun q _ => hF.fn q, ?_, fun hd => (by rw [hF.depth] at hd; cases hd), ?_⟩
        · rw [run_enterLoop_outer, ← hw2]
        · unfold resolve
          simp only [he, Deferred.ofValue]
          simp [Act.eval]
        · exact hcall
        · refine callsIn_F hF (hcalls _ _ fun v w' hv => ?_)
          exact hv
      · cases h
    · cases h

theorem code_sound {ent : FuncId → EK} (hdr : DrawnOk P ent) (hmix : P.follows .mixedOrders = true) {nt : Nat} {fn : FuncId} (hnt : ntmpsOf P fn = some nt) : ∀ (c : Code) (cf : CF), compC P ent nt fn c = some cf → CodeOk P ent nt c cf
  | .skip, cf, h => by
    obtain rfl := Option.some.inj (show some skipF = some cf from h)
    intro F hF rd hrd n sub hsub n0 ρ H w S a k Q hr hn ha h hk
    exact wpIn_skip (hk _ _ _ _ _ _ _ h ha (Sim.refl hr) rfl)
  | .label l, cf, h => by
    obtain rfl := Option.some.inj (show some skipF = some cf from h)
    intro F hF rd hrd n sub hsub n0 ρ H w S a k Q hr hn ha h hk
    exact wpIn_label (hk _ _ _ _ _ _ _ h ha (Sim.refl hr) rfl)
  | .exit id, cf, h => by
    obtain rfl := Option.some.inj (show some (exitF id) = some cf from h)
    intro F hF rd hrd n sub hsub n0 ρ H w S a k Q hr hn ha h hk
    exact wpIn_exit (hk _ _ _ _ _ _ _ h ha (Sim.refl hr) rfl)
  | .ret, cf, h => by
    obtain rfl := Option.some.inj (show some retF = some cf from h)
    intro F hF rd hrd n sub hsub n0 ρ H w S a k Q hr hn ha h hk
    exact wpIn_ret (hk _ _ _ _ _ _ _ h ha (Sim.refl hr) rfl)
  | .goto l, cf, h => by
    obtain rfl := Option.some.inj (show some failF = some cf from h)
    intro F hF rd hrd n sub hsub n0 ρ H w S a k Q hr hn ha h hk
    cases h
  | .refuse l, cf, h => by
    obtain rfl := Option.some.inj (show some failF = some cf from h)
    intro F hF rd hrd n sub hsub n0 ρ H w S a k Q hr hn ha h hk
    cases h
  | .scope l, cf, h => by
    obtain rfl := Option.some.inj (show some failF = some cf from h)
    intro F hF rd hrd n sub hsub n0 ρ H w S a k Q hr hn ha h hk
    cases h
  | .seq x y, cf, h => by
    obtain ⟨f, hf, h⟩ := ob_eq_some.1 (show ob (compC P ent nt fn x) (fun f => ob (compC P ent nt fn y) fun g => some (seqF f g)) = some cf from h)
    obtain ⟨g, hg, h⟩ := ob_eq_some.1 h
    obtain rfl := Option.some.inj h
    intro F hF rd hrd n sub hsub n0 ρ H w S a k Q hr hn ha h hk
    refine wpIn_seq (code_sound hdr hmix hnt x f hf F hF rd hrd n sub hsub n0 ρ H w S a _ _ hr hn ha h fun x' S' H' ρ' a' w' e h1 h2 h3 h4 => ?_)
    cases x' with
    | normal =>
      obtain rfl := h4
      exact code_sound hdr hmix hnt y g hg F hF rd hrd n sub hsub n0 ρ' H' w' S' a' k Q h3.hr (Nat.le_trans hn h3.size) h2 h1 (hk.trans h3)
    | exit id => obtain rfl := h4; exact hk _ _ _ _ _ _ _ h1 h2 h3 rfl
    | ret => obtain rfl := h4; exact hk _ _ _ _ _ _ _ h1 h2 h3 rfl
  | .cond c x y, cf, h => by
    obtain ⟨f, hf, h⟩ := ob_eq_some.1 (show ob (compC P ent nt fn x) (fun f => ob (compC P ent nt fn y) fun g => ob (opE c) fun c => some (condF c f g)) = some cf from h)
    obtain ⟨g, hg, h⟩ := ob_eq_some.1 h
    obtain ⟨p, hp, h⟩ := ob_eq_some.1 h
    obtain rfl := Option.some.inj h
    intro F hF rd hrd n sub hsub n0 ρ H w S a k Q hr hn ha h hk
    have hc := OR.of_TR ha.1 c p hp
    have h : onBool (fun b => cnd b (f sub rd S H k) (g sub rd S H k)) (cnd (f sub rd S H k) (g sub rd S H k) false) false (p S) = true := h
    have hx := fun h => code_sound hdr hmix hnt x f hf F hF rd hrd n sub hsub n0 ρ H w S a k Q hr hn ha h hk
    have hy := fun h => code_sound hdr hmix hnt y g hg F hF rd hrd n sub hsub n0 ρ H w S a k Q hr hn ha h hk
    generalize p S = v at hc h
    cases v with
    | bool b =>
      cases b with
      | true => exact wpIn_cond_true hc (hx h)
      | false => exact wpIn_cond_false hc (hy h)
    | anyBool =>
      obtain ⟨b, hb⟩ := hc
      obtain ⟨h1, h2⟩ := cnd_isTrue (show cnd (f sub rd S H k) (g sub rd S H k) false = true from h)
      cases b with
      | true => exact wpIn_cond_true hb (hx h1)
      | false => exact wpIn_cond_false hb (hy h2)
    | _ => cases h
  | .block id x, cf, h => by
    obtain ⟨f, hf, h⟩ := ob_eq_some.1 (show ob (compC P ent nt fn x) (fun f => some (blockF id f)) = some cf from h)
    obtain rfl := Option.some.inj h
    intro F hF rd hrd n sub hsub n0 ρ H w S a k Q hr hn ha h hk
    refine wpIn_block (code_sound hdr hmix hnt x f hf F hF rd hrd n sub hsub n0 ρ H w S a _ _ hr hn ha h fun x' S' H' ρ' a' w' e h1 h2 h3 h4 => ?_)
    cases x' with
    | normal => obtain rfl := h4; exact hk _ _ _ _ _ _ _ h1 h2 h3 rfl
    | ret => obtain rfl := h4; exact hk _ _ _ _ _ _ _ h1 h2 h3 rfl
    | exit id' =>
      obtain rfl := h4
      have h1 : (bif Nat.beq id' id then k .normal S' H' else k (.exit id') S' H') = true := h1
      simp only [Exit.inBlock]
      by_cases e : id' = id
      · rw [if_pos e]
        rw [nbeq, decide_eq_true e] at h1
        exact hk _ _ _ _ _ _ _ h1 h2 h3 rfl
      · rw [if_neg e]
        rw [nbeq, decide_eq_false e] at h1
        exact hk _ _ _ _ _ _ _ h1 h2 h3 rfl
  | .loop x, cf, h => by
    obtain ⟨f, hf, h⟩ := ob_eq_some.1 (show ob (compC P ent nt fn x) (fun f => some (loopF f)) = some cf from h)
    obtain rfl := Option.some.inj h
    intro F hF rd hrd n sub hsub n0 ρ H w S a k Q hr hn ha h hk
    refine wpIn_loopJ (I := fun j a w' => ∃ S' H' ρ', loopN f sub rd k j S' H' = true ∧ AR ρ' nt S' a ∧ Sim P n0 ρ H w ρ' H' w') (fun a w ⟨_, _, _, h, _⟩ => by cases h) (fun j a1 w1 ⟨S1, H1, ρ1, h1, h2, h3⟩ => ?_) 1048576 a w ⟨S, H, ρ, h, ha, Sim.refl hr⟩
    have h1 : f sub rd S1 H1 (loopK (loopN f sub rd k j) k) = true := h1
    refine code_sound hdr hmix hnt x f hf F hF rd hrd n sub hsub n0 ρ1 H1 w1 S1 a1 _ _ h3.hr (Nat.le_trans hn h3.size) h2 h1 fun x' S' H' ρ' a' w' e g1 g2 g3 g4 => ?_
    cases x' with
    | normal => obtain rfl := g4; exact ⟨S', H', ρ', g1, g2, h3.trans g3⟩
    | exit id => obtain rfl := g4; exact hk _ _ _ _ _ _ _ g1 g2 (h3.trans g3) rfl
    | ret => obtain rfl := g4; exact hk _ _ _ _ _ _ _ g1 g2 (h3.trans g3) rfl
  | .region id ops false, cf, h => by
    obtain ⟨ss, hss, h⟩ := ob_eq_some.1 (show ob (mapO (compStep P nt ops.toList) ops.toList) (fun l => ob (stepsF l) fun s => some (regF s)) = some cf from h)
    obtain ⟨s, hs, h⟩ := ob_eq_some.1 h
    obtain rfl := Option.some.inj h
    intro F hF rd hrd n sub hsub n0 ρ H w S a k Q hr hn ha h hk
    refine wpIn_region ?_
    have := steps_sound hF hsub (Q := Q) (n := n) ops.toList 0 (fun j o hj => by rw [Nat.zero_add]; simpa using hj) hss hs hr hn ha (k := k .normal) h (fun S' H' ρ' a' w' g1 g2 g3 => hk _ _ _ _ _ _ _ g1 g2 g3 rfl)
    simpa using this
  | .region id ops true, cf, h => by
    have h : (match compDrawn P nt ops.toList with | some s => some (regF s) | none => some failF) = some cf := h
    split at h
    · rename_i s hs
      obtain rfl := Option.some.inj h
      intro F hF rd hrd n sub hsub n0 ρ H w S a k Q hr hn ha h hk
      refine wpIn_region_any hmix (hdr nt ops s hs F hF n sub hsub n0 ρ H _ S a (k .normal) Q hr.drew hn ha h fun S' H' ρ' a' w' g1 g2 g3 => hk _ _ _ _ _ _ _ g1 g2 ((Sim.drew hr).trans g3) rfl)
    · obtain rfl := Option.some.inj h
      intro F hF rd hrd n sub hsub n0 ρ H w S a k Q hr hn ha h hk
      cases h
  | .rangeFunc g ps asg body, cf, h => by
    obtain ⟨pg, hg, h⟩ := ob_eq_some.1 (show ob (opE g) (fun g => some (rfF ent fn g ps.toList asg body)) = some cf from h)
    obtain rfl := Option.some.inj h
    exact rf_sound hnt hg
end Go.Ab
