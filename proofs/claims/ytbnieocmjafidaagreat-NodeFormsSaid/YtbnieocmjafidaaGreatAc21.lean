/- The abstract machine, 21: what is kept of an operation is what it does: the rest. -/
import Derived.Test.YtbnieocmjafidaaGreatAc20
set_option linter.unusedVariables false
set_option linter.unusedSimpArgs false
namespace Go.Ab
variable {P : Program}

theorem ob3 {α : Type} {x y : Operand} {f : Opd → Opd → Option α} {a : α} (h : ob (opE x) (fun x => ob (opE y) fun y => f x y) = some a) : ∃ p q, opE x = some p ∧ opE y = some q ∧ f p q = some a := by
  obtain ⟨p, h1, h⟩ := ob_eq_some.1 h
  obtain ⟨q, h2, h⟩ := ob_eq_some.1 h
  exact ⟨p, q, h1, h2, h⟩
theorem bin_run {op : BinOp} {t yt : TypeId} {x y : Operand} {e : Operand → Value} {dst ty pos after guard} {w : World} {v' : Value} (hg : (eqGuard op t x y (e x) (e y)).run P w = .ok () w) (h : (binOp op t (e x) (e y)).run P w = .ok v' w) :
    (execOp e ⟨dst, .binOp op t x y yt, ty, pos, after, guard⟩).run P w = .ok (.value v') w := by
  have : (do eqGuard op t x y (e x) (e y); binOp op t (e x) (e y) : Sem Value).run P w = .ok v' w := by simp [Sem.run_bind, hg, h, Result.andThen]
  exact run_v this
theorem compBin_sound {op : BinOp} {t yt : TypeId} {x y : Operand} {dst ty pos after guard} {F : OF} (h : compOp P (.binOp op t x y yt) = some F) : OFS P ⟨dst, .binOp op t x y yt, ty, pos, after, guard⟩ F := by
  simp only [compOp] at h
  obtain ⟨p, q, hp, hq, h⟩ := ob3 h
  have opx : ∀ {ρ : Rho} {S : AS} {e : Operand → Value}, (∀ z ∈ (Op.binOp op t x y yt).operands.toList, OR ρ S e z) → VR ρ (p S) (e x) ∧ VR ρ (q S) (e y) := fun ho => ⟨ho x (by simp [Op.operands]) p hp, ho y (by simp [Op.operands]) q hq⟩
  have plain : ∀ {f : AV → AV → Option AV}, (op ≠ .eql ∧ op ≠ .neq) → opV op = some f → F = .read (binF f p q) → OFS P ⟨dst, .binOp op t x y yt, ty, pos, after, guard⟩ F := fun {f} hne hf hF => by
    subst hF
    intro n0 ρ H w S e v hr ho hv
    obtain ⟨h1, h2⟩ := opx ho
    obtain ⟨v', h3, h4⟩ := opV_sound (t := t) hf h1 h2 hv w
    exact ⟨v', bin_run (eqGuard_skip hne _ _ _ _ _ _) h3, h4⟩
  have guardInt : ∀ {k a k' b}, ∀ {e : Operand → Value} {w : World}, (op = .eql ∨ op = .neq) → e x = .int k a → e y = .int k' b → (eqGuard op t x y (e x) (e y)).run P w = .ok () w := fun {k a k' b e w} hop h1 h2 => by
    rw [h1, h2]; exact eqGuard_ok hop w (by simp) (by simp)
  have eqs : ∀ (neg : Bool) {f}, ((neg = false ∧ op = .eql) ∨ (neg = true ∧ op = .neq)) → eqV P t = some f → F = .read (eqF neg f p q) → OFS P ⟨dst, .binOp op t x y yt, ty, pos, after, guard⟩ F := fun neg {f} hop hf hF => by
    subst hF
    intro n0 ρ H w S e v hr ho hv
    obtain ⟨h1, h2⟩ := opx ho
    obtain ⟨b, hb, hv⟩ := ob_eq_some.1 hv
    obtain rfl := Option.some.inj hv
    obtain ⟨h3, h4, h5, h6⟩ := eqV_sound hr hf h1 h2 hb
    rcases hop with ⟨rfl, rfl⟩ | ⟨rfl, rfl⟩
    · exact ⟨.bool b, bin_run (eqGuard_ok (.inl rfl) w h5 h6) h3, by cases b <;> rfl⟩
    · exact ⟨.bool (!b), bin_run (eqGuard_ok (.inr rfl) w h5 h6) h4, by cases b <;> rfl⟩
  have numeric : ∀ {ρ : Rho} {a b v : AV} {va vb : Value} {f : IntKind → Int → Int → Option AV} {o : BinOp}, VR ρ a va → VR ρ b vb → intsV f o a b = some v → (∃ k n, va = .int k n) ∧ ∃ k n, vb = .int k n := fun {ρ a b v va vb f o} h1 h2 h3 => by
    have hr : rngV o a b = some v → (∃ k n, va = .int k n) ∧ ∃ k n, vb = .int k n := fun hh => by
      obtain ⟨⟨k, l, m⟩, hp, hh⟩ := ob_eq_some.1 hh
      obtain ⟨⟨k', l', m'⟩, hq, hh⟩ := ob_eq_some.1 hh
      obtain ⟨n, rfl, _⟩ := bounds_sound hp h1
      obtain ⟨n', rfl, _⟩ := bounds_sound hq h2
      exact ⟨⟨_, _, rfl⟩, _, _, rfl⟩
    cases a <;> first | exact hr h3 | skip
    cases b <;> first | exact hr h3 | skip
    exact ⟨⟨_, _, h1⟩, _, _, h2⟩
  cases op
  case eql =>
    simp only at h
    split at h
    · obtain rfl := Option.some.inj h
      intro n0 ρ H w S e v hr ho hv
      obtain ⟨h1, h2⟩ := opx ho
      obtain ⟨v', h3, h4⟩ := eqInt_sound (P := P) (t := t) h1 h2 hv w
      obtain ⟨⟨_, _, e1⟩, _, _, e2⟩ := numeric h1 h2 hv
      exact ⟨v', bin_run (guardInt (.inl rfl) e1 e2) h3, h4⟩
    · obtain ⟨f, hf, h⟩ := ob_eq_some.1 h
      exact eqs false (.inl ⟨rfl, rfl⟩) hf (Option.some.inj h).symm
  case neq =>
    simp only at h
    split at h
    · obtain rfl := Option.some.inj h
      intro n0 ρ H w S e v hr ho hv
      obtain ⟨h1, h2⟩ := opx ho
      obtain ⟨v', h3, h4⟩ := neInt_sound (P := P) (t := t) h1 h2 hv w
      obtain ⟨⟨_, _, e1⟩, _, _, e2⟩ := numeric h1 h2 hv
      exact ⟨v', bin_run (guardInt (.inr rfl) e1 e2) h3, h4⟩
    · obtain ⟨f, hf, h⟩ := ob_eq_some.1 h
      exact eqs true (.inr ⟨rfl, rfl⟩) hf (Option.some.inj h).symm
  case rem =>
    simp only at h
    obtain rfl := Option.some.inj h
    intro n0 ρ H w S e vs hr ho hv
    obtain ⟨h1, h2⟩ := opx ho
    obtain ⟨v, hv2, hvs⟩ := ob_eq_some.1 hv
    obtain rfl := Option.some.inj hvs
    obtain ⟨v', h3, h4⟩ := opV_sound (op := .rem) (t := t) rfl h1 h2 hv2 w
    obtain ⟨b, h5, h6⟩ := spread_mem h4
    exact ⟨b, v', h5, bin_run (eqGuard_skip (by simp) _ _ _ _ _ _) h3, h6⟩
  all_goals
    obtain ⟨f, hf, h⟩ := ob_eq_some.1 h
    exact plain (by simp) hf (Option.some.inj h).symm

theorem isU8_under {t : TypeId} (h : isU8 P t = true) : P.underlying t = some (.int .u8) := by
  unfold isU8 at h
  split at h
  · assumption
  · cases h
theorem compOp_sound (o : Oper) (F : OF) (h : compOp P o.op = some F) : OFS P o F := by
  obtain ⟨dst, op, ty, pos, after, guard⟩ := o
  simp only at h
  cases op <;> first | (cases h; done) | skip
  case move x =>
    obtain ⟨p, hp, h⟩ := ob_eq_some.1 h
    obtain rfl := Option.some.inj h
    intro n0 ρ H w S e v hr ho hv
    obtain rfl := Option.some.inj hv
    exact ⟨_, rfl, ho x (by simp [Op.operands]) p hp⟩
  case assign x =>
    obtain ⟨p, hp, h⟩ := ob_eq_some.1 h
    obtain rfl := Option.some.inj h
    intro n0 ρ H w S e v hr ho hv
    obtain rfl := Option.some.inj hv
    exact ⟨_, rfl, ho x (by simp [Op.operands]) p hp⟩
  case pick c a b =>
    obtain ⟨pc, hc, h⟩ := ob_eq_some.1 h
    obtain ⟨pa, ha, h⟩ := ob_eq_some.1 h
    obtain ⟨pb, hb, h⟩ := ob_eq_some.1 h
    obtain rfl := Option.some.inj h
    intro n0 ρ H w S e v hr ho hv
    obtain ⟨t, ht, hv⟩ := onBool_some hv
    obtain rfl := Option.some.inj hv
    have h1 := ho c (by simp [Op.operands]) pc hc
    have h2 := ho a (by simp [Op.operands]) pa ha
    have h3 := ho b (by simp [Op.operands]) pb hb
    rw [ht] at h1
    have h1 : e c = .bool t := h1
    refine ⟨if t then e a else e b, by simp [execOp, h1, asBool, Sem.run_bind, Result.andThen], ?_⟩
    cases t <;> assumption
  case alloc t =>
    obtain ⟨zs, hz, h⟩ := ob_eq_some.1 h
    obtain rfl := Option.some.inj h
    intro ρ w S e k x ho hv
    simp only [zeroF, Option.some.injEq, Prod.mk.injEq] at hv
    obtain ⟨rfl, rfl⟩ := hv
    exact (alloc_sound hz w ρ).next
  case box t x =>
    obtain ⟨p, hp, h⟩ := ob_eq_some.1 h
    obtain rfl := Option.some.inj h
    intro ρ w S e k y ho hv
    obtain ⟨vs, hvs, hv⟩ := ob_eq_some.1 hv
    simp only [Option.some.injEq, Prod.mk.injEq] at hv
    obtain ⟨rfl, rfl⟩ := hv
    exact (box_sound (t := t) (ho x (by simp [Op.operands]) p hp) hvs w).next
  case build t ps =>
    obtain ⟨d, hu, h⟩ := ob_eq_some.1 h
    have hps : ∀ {ρ : Rho} {S : AS} {e : Operand → Value}, (∀ z ∈ (Op.build t ps).operands.toList, OR ρ S e z) → ∀ p ∈ ps.toList, OR ρ S e p.2 := fun ho p hp => ho p.2 (by simp only [Op.operands, List.toList_toArray]; exact List.mem_map.2 ⟨p, hp, rfl⟩)
    have hmap : ∀ (e : Operand → Value), (ps.map fun (i, x) => (i, e x)) = (ps.toList.map fun p => (p.1, e p.2)).toArray := fun e => by
      apply Array.toList_inj.1; simp
    cases d <;> simp only at h <;> first | (cases h; done) | skip
    case array =>
      obtain ⟨zs, hz, h⟩ := ob_eq_some.1 h
      obtain ⟨n, hn, h⟩ := ob_eq_some.1 h
      obtain ⟨pl, hpl, h⟩ := ob_eq_some.1 h
      obtain rfl := Option.some.inj h
      intro n0 ρ H w S e v hr ho hv
      have := build_array_sound hu hn hz hpl (hps ho) hv w
      rw [← hmap] at this
      exact toNext this
    case struct =>
      obtain ⟨ns, hns, h⟩ := ob_eq_some.1 h
      obtain ⟨zs, hz, h⟩ := ob_eq_some.1 h
      obtain ⟨pl, hpl, h⟩ := ob_eq_some.1 h
      obtain rfl := Option.some.inj h
      intro n0 ρ H w S e v hr ho hv
      have := build_struct_sound hu hns hz hpl (hps ho) hv w
      rw [← hmap] at this
      exact toNext this
  case buildSlice t len ps =>
    obtain ⟨d, hu, h⟩ := ob_eq_some.1 h
    have hps : ∀ {ρ : Rho} {S : AS} {e : Operand → Value}, (∀ z ∈ (Op.buildSlice t len ps).operands.toList, OR ρ S e z) → ∀ p ∈ ps.toList, OR ρ S e p.2 := fun ho p hp => ho p.2 (by simp only [Op.operands, List.toList_toArray]; exact List.mem_map.2 ⟨p, hp, rfl⟩)
    have hmap : ∀ (e : Operand → Value), (ps.map fun (i, x) => (i, e x)) = (ps.toList.map fun p => (p.1, e p.2)).toArray := fun e => by
      apply Array.toList_inj.1; simp
    cases d <;> simp only at h <;> first | (cases h; done) | skip
    obtain ⟨zs, hz, h⟩ := ob_eq_some.1 h
    obtain ⟨n, hn, h⟩ := ob_eq_some.1 h
    obtain ⟨hl, h⟩ := cond_none h
    obtain ⟨pl, hpl, h⟩ := ob_eq_some.1 h
    obtain rfl := Option.some.inj h
    rw [nblt, decide_eq_false_iff_not] at hl
    intro ρ w S e k x ho hv
    have := buildSlice_sound hu hn hl hz hpl (hps ho) hv w
    rw [← hmap] at this
    exact this.next
  case load t a =>
    obtain ⟨f, hf, h⟩ := ob_eq_some.1 h
    obtain ⟨p, hp, h⟩ := ob_eq_some.1 h
    obtain rfl := Option.some.inj h
    intro n0 ρ H w S e v hr ho hv
    exact toNext (load_sound hf hr (ho a (by simp [Op.operands]) p hp) hv)
  case store t a x =>
    obtain ⟨g, hg, h⟩ := ob_eq_some.1 h
    obtain ⟨n, hn, h⟩ := ob_eq_some.1 h
    obtain ⟨p, hp, h⟩ := ob_eq_some.1 h
    obtain ⟨q, hq, h⟩ := ob_eq_some.1 h
    cases g with
    | true =>
      simp only [cond_true] at h
      obtain rfl := Option.some.inj h
      intro n0 ρ H H' w S e v hr hn0 ho hv
      obtain ⟨w', h1, h2, rfl⟩ := stAF_sound hn hr (ho a (by simp [Op.operands]) p hp) (ho x (by simp [Op.operands]) q hq) hv
      exact ⟨undef, w', ρ, .inr ⟨run_u h1, rfl⟩, h2, ⟨#[], rfl, rfl⟩⟩
    | false =>
      simp only [cond_false] at h
      obtain ⟨h1, h⟩ := cond_some h
      obtain rfl := Option.some.inj h
      rw [nbeq, decide_eq_true_eq] at h1
      subst h1
      intro n0 ρ H H' w S e v hr hn0 ho hv
      obtain ⟨w', h1, h2, rfl⟩ := stSF_sound hn hr (ho a (by simp [Op.operands]) p hp) (ho x (by simp [Op.operands]) q hq) hv
      exact ⟨undef, w', ρ, .inr ⟨run_u h1, rfl⟩, h2, ⟨#[], rfl, rfl⟩⟩
  case nilCheck x =>
    obtain ⟨p, hp, h⟩ := ob_eq_some.1 h
    obtain rfl := Option.some.inj h
    intro n0 ρ H w S e v hr ho hv
    have h1 := ho x (by simp [Op.operands]) p hp
    have hv : nilF p S H = some v := hv
    unfold nilF at hv
    split at hv
    · rename_i b o hX
      obtain rfl := Option.some.inj hv
      rw [hX] at h1
      refine ⟨e x, ?_, h1⟩
      obtain ⟨l, _, h2⟩ := h1
      simp [execOp, h2]
    · rename_i f c hX
      obtain rfl := Option.some.inj hv
      rw [hX] at h1
      refine ⟨e x, ?_, h1⟩
      obtain ⟨vs, h2, _⟩ := h1
      simp [execOp, h2]
    · rename_i l hX
      obtain rfl := Option.some.inj hv
      rw [hX] at h1
      refine ⟨e x, ?_, h1⟩
      obtain ⟨l, _, h2⟩ := h1
      simp [execOp, h2]
    · cases hv
  case binOp op t x y yt => exact compBin_sound h
  case unOp op t x =>
    obtain ⟨p, hp, h⟩ := ob_eq_some.1 h
    have go : ∀ {f}, ((op = .neg ∧ f = negV) ∨ (op = .not ∧ f = notV) ∨ (op = .xor ∧ f = cplV)) → F = .read (unF f p) → OFS P ⟨dst, .unOp op t x, ty, pos, after, guard⟩ F := fun {f} hf hF => by
      subst hF
      intro n0 ρ H w S e v hr ho hv
      exact toNext (un_sound hf (ho x (by simp [Op.operands]) p hp) hv w)
    cases op <;> simp only at h <;> first | (cases h; done) | skip
    · exact go (.inl ⟨rfl, rfl⟩) (Option.some.inj h).symm
    · exact go (.inr (.inr ⟨rfl, rfl⟩)) (Option.some.inj h).symm
    · exact go (.inr (.inl ⟨rfl, rfl⟩)) (Option.some.inj h).symm
  case convert s d x =>
    obtain ⟨p, hp, h⟩ := ob_eq_some.1 h
    obtain ⟨us, hus, h⟩ := ob_eq_some.1 h
    obtain ⟨ud, hud, h⟩ := ob_eq_some.1 h
    cases ud <;> simp only at h <;> first | (cases h; done) | skip
    case int k =>
      obtain rfl := Option.some.inj h
      intro n0 ρ H w S e v hr ho hv
      exact toNext (toInt_sound hus hud (ho x (by simp [Op.operands]) p hp) hv w)
    case string =>
      cases us <;> simp only at h <;> first | (cases h; done) | skip
      obtain ⟨h8, h⟩ := cond_some h
      obtain rfl := Option.some.inj h
      intro n0 ρ H w S e v hr ho hv
      exact toNext (toStr_sound hus (isU8_under h8) hud hr (ho x (by simp [Op.operands]) p hp) hv)
    case slice el =>
      cases us <;> simp only at h <;> first | (cases h; done) | skip
      obtain ⟨h8, h⟩ := cond_some h
      obtain rfl := Option.some.inj h
      simp only [Bool.and_eq_true, nbeq, decide_eq_true_eq] at h8
      obtain ⟨h8, rfl⟩ := h8
      intro n0 ρ H H' w S e v hr hn0 ho hv
      exact (unclean_sound hud (isU8_under h8) hr (ho x (by simp [Op.operands]) p hp) hv).next
  case makeFunc fn first cap =>
    cases fn <;> first | (cases h; done) | skip
    rename_i f
    have h : (match first.toList with
      | [] => ob (opL cap.toList) fun cap => some (OF.read (fnF f cap))
      | _ => none) = some F := h
    split at h
    · rename_i hfirst
      obtain ⟨fs, hfs, h⟩ := ob_eq_some.1 h
      obtain rfl := Option.some.inj h
      intro n0 ρ H w S e v hr ho hv
      obtain rfl := Option.some.inj hv
      have hf : first = #[] := Array.toList_inj.1 (by simpa using hfirst)
      subst hf
      have := opL_all hfs (ρ := ρ) (S := S) (e := e) fun y hy => ho y (by simp only [Op.operands]; simpa using hy)
      refine ⟨.func (.func f) #[] (cap.map e), ?_, cap.map e, rfl, ?_⟩
      · simp [execOp, Instr.makeFunc]
      · rw [mapL_eq]; simpa using this
    · cases h
  case makeMap t r =>
    cases r <;> first | (cases h; done) | skip
    obtain rfl := Option.some.inj h
    intro ρ w S e k x ho hv
    simp only [mkMF, Option.some.injEq, Prod.mk.injEq] at hv
    obtain ⟨rfl, rfl⟩ := hv
    exact (makeMap_sound (t := t) w ρ).next
  case makeSlice t l c =>
    obtain ⟨d, hu, h⟩ := ob_eq_some.1 h
    cases d <;> simp only at h <;> first | (cases h; done) | skip
    obtain ⟨zs, hz, h⟩ := ob_eq_some.1 h
    obtain ⟨bytes, hb, h⟩ := ob_eq_some.1 h
    obtain ⟨pl, hpl, h⟩ := ob_eq_some.1 h
    obtain ⟨pc, hpc, h⟩ := ob_eq_some.1 h
    obtain rfl := Option.some.inj h
    intro ρ w S e k x ho hv
    exact (makeSlice_sound hu hz hb (ho l (by simp [Op.operands]) pl hpl) (ho c (by simp [Op.operands]) pc hpc) hv w).next
  case slice t x lo hi mx =>
    obtain ⟨d, hu, h⟩ := ob_eq_some.1 h
    obtain ⟨p, hp, h⟩ := ob_eq_some.1 h
    obtain ⟨pl, hpl, h⟩ := ob_eq_some.1 h
    obtain ⟨ph, hph, h⟩ := ob_eq_some.1 h
    obtain ⟨pm, hpm, h⟩ := ob_eq_some.1 h
    have hlo : ∀ {ρ : Rho} {S : AS} {e : Operand → Value}, (∀ z ∈ (Op.slice t x lo hi mx).operands.toList, OR ρ S e z) → OO ρ S e lo pl ∧ OO ρ S e hi ph ∧ OO ρ S e mx pm := fun ho =>
      ⟨OO.of hpl fun y hy => ho y (by subst hy; simp [Op.operands]), OO.of hph fun y hy => ho y (by subst hy; simp [Op.operands]), OO.of hpm fun y hy => ho y (by subst hy; simp [Op.operands])⟩
    cases d <;> simp only at h <;> first | (cases h; done) | skip
    case string =>
      cases pm <;> simp only at h <;> first | (cases h; done) | skip
      obtain rfl := Option.some.inj h
      have hmx : mx = none := by
        cases mx with
        | none => rfl
        | some y => obtain ⟨g, _, hg⟩ := ob_eq_some.1 hpm; cases hg
      subst hmx
      intro n0 ρ H w S e v hr ho hv
      obtain ⟨h1, h2, _⟩ := hlo ho
      exact toNext (slStr_sound hu (ho x (by simp [Op.operands]) p hp) h1 h2 hv w)
    case slice el =>
      obtain ⟨n, hn, h⟩ := ob_eq_some.1 h
      obtain ⟨hmh, h⟩ := cnd_some h
      obtain rfl := Option.some.inj h
      intro n0 ρ H w S e v hr ho hv
      obtain ⟨h1, h2, h3⟩ := hlo ho
      refine toNext (slSl_sound hu hn (ho x (by simp [Op.operands]) p hp) h1 h2 h3 (fun hs => ?_) hv w)
      cases mx with
      | none => cases hs
      | some y => cases hi with
        | none =>
          obtain rfl := Option.some.inj (show some none = some ph from hph)
          obtain ⟨g, _, hg⟩ := ob_eq_some.1 hpm
          obtain rfl := Option.some.inj hg
          cases hmh
        | some z => rfl
  case fieldAddr s x i =>
    obtain ⟨d, hu, h⟩ := ob_eq_some.1 h
    cases d <;> simp only at h <;> first | (cases h; done) | skip
    obtain ⟨f, hf, h⟩ := ob_eq_some.1 h
    obtain ⟨n, hn, h⟩ := ob_eq_some.1 h
    obtain ⟨h0, h⟩ := cond_none h
    obtain ⟨p, hp, h⟩ := ob_eq_some.1 h
    rw [forceNat_eq] at h
    obtain rfl := Option.some.inj h
    rw [nbeq, decide_eq_false_iff_not] at h0
    rw [nthL_eq] at hf
    intro n0 ρ H w S e v hr ho hv
    exact toNext (fieldAt_sound hu hf hn h0 (ho x (by simp [Op.operands]) p hp) hv w)
  case field s x i =>
    obtain ⟨d, hu, h⟩ := ob_eq_some.1 h
    cases d <;> simp only at h <;> first | (cases h; done) | skip
    obtain ⟨f, hf, h⟩ := ob_eq_some.1 h
    obtain ⟨g, hg, h⟩ := ob_eq_some.1 h
    obtain ⟨p, hp, h⟩ := ob_eq_some.1 h
    rw [forceNat_eq] at h
    obtain rfl := Option.some.inj h
    rw [nthL_eq] at hf
    intro n0 ρ H w S e v hr ho hv
    exact toNext (field_sound hu hf hg (ho x (by simp [Op.operands]) p hp) hv w)
  case indexAddr t x i =>
    obtain ⟨d, hu, h⟩ := ob_eq_some.1 h
    obtain ⟨p, hp, h⟩ := ob_eq_some.1 h
    obtain ⟨q, hq, h⟩ := ob_eq_some.1 h
    cases d <;> simp only at h <;> first | (cases h; done) | skip
    obtain ⟨n, hn, h⟩ := ob_eq_some.1 h
    obtain rfl := Option.some.inj h
    intro n0 ρ H w S e v hr ho hv
    exact toNextF (indexAt_sound hu hn (ho x (by simp [Op.operands]) p hp) (ho i (by simp [Op.operands]) q hq) hv w)
  case index t x i =>
    obtain ⟨d, hu, h⟩ := ob_eq_some.1 h
    obtain ⟨p, hp, h⟩ := ob_eq_some.1 h
    obtain ⟨q, hq, h⟩ := ob_eq_some.1 h
    cases d <;> simp only at h <;> first | (cases h; done) | skip
    case array =>
      obtain ⟨n, hn, h⟩ := ob_eq_some.1 h
      obtain ⟨g, hg, h⟩ := ob_eq_some.1 h
      obtain rfl := Option.some.inj h
      intro n0 ρ H w S e v hr ho hv
      exact toNextF (index_array_sound hu hn hg (ho x (by simp [Op.operands]) p hp) (ho i (by simp [Op.operands]) q hq) hv w)
    case string =>
      obtain rfl := Option.some.inj h
      intro n0 ρ H w S e v hr ho hv
      exact toNextF (index_str_sound hu (ho x (by simp [Op.operands]) p hp) (ho i (by simp [Op.operands]) q hq) hv w)
  case lookup t x k ok =>
    obtain ⟨d, hu, h⟩ := ob_eq_some.1 h
    cases d <;> simp only at h <;> first | (cases h; done) | skip
    obtain ⟨z, hz, h⟩ := ob_eq_some.1 h
    obtain ⟨p, hp, h⟩ := ob_eq_some.1 h
    obtain ⟨q, hq, h⟩ := ob_eq_some.1 h
    obtain ⟨K, hK, h⟩ := ob_eq_some.1 h
    obtain rfl := Option.some.inj h
    intro n0 ρ H w S e v hr ho hv
    exact toNext (lookup_sound hu hK hz hr (ho x (by simp [Op.operands]) p hp) (ho k (by simp [Op.operands]) q hq) hv)
  case mapUpdate t m k x =>
    obtain ⟨d, hu, h⟩ := ob_eq_some.1 h
    cases d <;> simp only at h <;> first | (cases h; done) | skip
    obtain ⟨pm, hpm, h⟩ := ob_eq_some.1 h
    obtain ⟨pk, hpk, h⟩ := ob_eq_some.1 h
    obtain ⟨px, hpx, h⟩ := ob_eq_some.1 h
    obtain ⟨K, hK, h⟩ := ob_eq_some.1 h
    obtain rfl := Option.some.inj h
    intro n0 ρ H H' w S e v hr hn0 ho hv
    obtain ⟨w', h1, h2, rfl⟩ := upd_sound hu hK hr (ho m (by simp [Op.operands]) pm hpm) (ho k (by simp [Op.operands]) pk hpk) (ho x (by simp [Op.operands]) px hpx) hv
    exact ⟨undef, w', ρ, .inr ⟨run_u h1, rfl⟩, h2, ⟨#[], rfl, rfl⟩⟩
  case range t x =>
    obtain ⟨d, hu, h⟩ := ob_eq_some.1 h
    cases d <;> simp only at h <;> first | (cases h; done) | skip
    obtain ⟨p, hp, h⟩ := ob_eq_some.1 h
    obtain rfl := Option.some.inj h
    intro n0 ρ H H' w S e v hr hn0 ho hv
    exact (range_sound hu hr hn0 (ho x (by simp [Op.operands]) p hp) hv).next
  case next it str =>
    obtain ⟨h0, h⟩ := cond_none h
    subst h0
    obtain ⟨p, hp, h⟩ := ob_eq_some.1 h
    obtain rfl := Option.some.inj h
    intro n0 ρ H w S e ps hr hn0 ho hv
    obtain ⟨q, hq1, hq2⟩ := next_sound (ty := ty) hr (ho it (by simp [Op.operands]) p hp) hv
    exact ⟨q, hq1, hq2.next⟩
  case entry it =>
    obtain ⟨p, hp, h⟩ := ob_eq_some.1 h
    obtain rfl := Option.some.inj h
    intro n0 ρ H w S e v hr ho hv
    exact toNext (entry_sound hr (ho it (by simp [Op.operands]) p hp) hv)
  case extract x i =>
    obtain ⟨p, hp, h⟩ := ob_eq_some.1 h
    obtain rfl := Option.some.inj h
    intro n0 ρ H w S e v hr ho hv
    have h1 := ho x (by simp [Op.operands]) p hp
    obtain ⟨cs, hX, hv⟩ := onTup_some hv
    rw [hX] at h1
    obtain ⟨vs, h2, h3⟩ := h1
    rw [nthL_eq] at hv
    obtain ⟨u, h4, h5⟩ := VRs_get h3 _ _ hv
    have h4' : vs[i]? = some u := by simpa using h4
    exact toNext ⟨u, by simp [Instr.extract, h2, h4'], h5⟩
  case call c =>
    have h : (match c.callee with
      | .builtin b => ob (opL c.args.toList) fun as => compBuiltin P b as c.argTypes.toList
      | .value f => ob (opE f) fun f => ob (opL c.args.toList) fun as => some (.call f as)
      | .invoke _ _ => none) = some F := h
    split at h
    · rename_i b hb
      obtain ⟨as, ha, h⟩ := ob_eq_some.1 h
      exact compBuiltin_sound hb ha h
    · rename_i f hf
      obtain ⟨p, hp, h⟩ := ob_eq_some.1 h
      obtain ⟨as, ha, h⟩ := ob_eq_some.1 h
      obtain rfl := Option.some.inj h
      exact ⟨c, f, rfl, hf, hp, ha⟩
    · cases h
theorem compOpT_sound (o : Oper) (F : OF) (h : compOpT P o.op = some F) : OFS P o F := by
  unfold compOpT at h
  split at h
  · rename_i F' hF
    obtain rfl := Option.some.inj h
    exact compOp_sound o _ hF
  · obtain rfl := Option.some.inj h
    intro n0 ρ H H' w S e v hr hn0 ho hv
    cases hv
end Go.Ab
