/- The abstract machine, 27: a region that draws its order: what its plan knows. -/
import Derived.Test.YtbnieocmjafidaaGreatAc26
set_option linter.unusedVariables false
set_option linter.unusedSimpArgs false
namespace Go.Ab
variable {P : Program}

/-! ### Rows of bits -/
theorem has_eq (m i : Nat) : has m i = Nat.testBit m i := by
  unfold has
  rw [nbeq]
  have h1 : Nat.land (Nat.shiftRight m i) 1 = (m >>> i) % 2 := Nat.and_one_is_mod _
  rw [h1, Nat.testBit_eq_decide_div_mod_eq, Nat.shiftRight_eq_div_pow]
theorem has_or (a b i : Nat) : has (Nat.lor a b) i = (has a i || has b i) := by
  rw [has_eq, has_eq, has_eq]; exact Nat.testBit_or a b i
theorem has_bit (d i : Nat) : has (bit d) i = decide (d = i) := by
  rw [has_eq]
  unfold bit
  have : Nat.shiftLeft 1 d = 2 ^ d := by show 1 <<< d = _; rw [Nat.one_shiftLeft]
  rw [this, Nat.testBit_two_pow]
theorem has_zero (i : Nat) : has 0 i = false := by rw [has_eq]; simp
theorem sub_spec {b d : Nat} : sub? b d = true ↔ ∀ i, has b i = true → has d i = true := by
  unfold sub?
  rw [nbeq, decide_eq_true_eq]
  constructor
  · intro h i hi
    rw [has_eq] at hi ⊢
    have : Nat.testBit (Nat.land b d) i = Nat.testBit b i := congrArg (fun x => Nat.testBit x i) h
    have e : Nat.testBit (Nat.land b d) i = (Nat.testBit b i && Nat.testBit d i) := Nat.testBit_and b d i
    rw [e, hi] at this
    simpa using this
  · intro h
    apply Nat.eq_of_testBit_eq
    intro i
    have e : Nat.testBit (Nat.land b d) i = (Nat.testBit b i && Nat.testBit d i) := Nat.testBit_and b d i
    rw [e]
    have := h i
    rw [has_eq, has_eq] at this
    cases hb : Nat.testBit b i with
    | false => simp
    | true => rw [this hb]; rfl
theorem has_minus {a b i : Nat} (h1 : has a i = true) (h2 : has b i = false) : has (minus a b) i = true := by
  unfold minus
  rw [has_eq] at *
  have e1 : Nat.testBit (Nat.xor a (Nat.land a b)) i = (Nat.testBit a i != Nat.testBit (Nat.land a b) i) := by
    show Nat.testBit (a ^^^ (a &&& b)) i = _
    rw [Nat.testBit_xor]
    cases Nat.testBit a i <;> cases Nat.testBit (a &&& b) i <;> rfl
  have e2 : Nat.testBit (Nat.land a b) i = (Nat.testBit a i && Nat.testBit b i) := Nat.testBit_and a b i
  rw [e1, e2, h1, h2]; rfl
theorem disj_spec {a b : Nat} (h : Nat.beq (Nat.land a b) 0 = true) (i : Nat) : ¬ (has a i = true ∧ has b i = true) := by
  rw [nbeq, decide_eq_true_eq] at h
  rintro ⟨h1, h2⟩
  rw [has_eq] at h1 h2
  have e : Nat.testBit (Nat.land a b) i = (Nat.testBit a i && Nat.testBit b i) := Nat.testBit_and a b i
  rw [h, h1, h2] at e
  simp at e
theorem has_bitsTo (l : List Nat) (i : Nat) : has (bitsTo l) i = true ↔ i ∈ l := by
  induction l with
  | nil => show has 0 i = true ↔ _; rw [has_zero]; simp
  | cons a l ih =>
    show has (Nat.lor (bit a) (bitsTo l)) i = true ↔ _
    rw [has_or, has_bit, Bool.or_eq_true, ih, decide_eq_true_eq, List.mem_cons]
    constructor
    · rintro (h | h); exact .inl h.symm; exact .inr h
    · rintro (h | h); exact .inl h.symm; exact .inr h

/-! ### What an operation looks at -/
theorem has_maskO (l : List Operand) (t : Nat) : has (maskO l) t = true ↔ .tmp t ∈ l := by
  induction l with
  | nil => show has 0 t = true ↔ _; rw [has_zero]; simp
  | cons x l ih =>
    cases x with
    | tmp u =>
      show has (Nat.lor (bit u) (maskO l)) t = true ↔ _
      rw [has_or, has_bit, Bool.or_eq_true, ih, decide_eq_true_eq, List.mem_cons]
      constructor
      · rintro (h | h); exact .inl (by rw [h]); exact .inr h
      · rintro (h | h); exact .inl (by cases h; rfl); exact .inr h
    | _ => show has (maskO l) t = true ↔ _; rw [ih]; simp
theorem has_maskD (d : Option Tmp) (t : Nat) : has (maskD d) t = true ↔ d = some t := by
  cases d with
  | none => show has 0 t = true ↔ _; rw [has_zero]; simp
  | some u => show has (bit u) t = true ↔ _; rw [has_bit, decide_eq_true_eq, Option.some.injEq]
/-- The temporary that an operation's guard looks at. -/
def guardT (ops : Array Oper) (o : Oper) : Option Tmp := match o.guard with
  | none => none
  | some p => (ops[p.1]?).bind (·.dst)
def Looks (ops : Array Oper) (o : Oper) (t : Nat) : Prop := .tmp t ∈ o.op.operands.toList ∨ guardT ops o = some t
theorem has_lk (ops : Array Oper) (o : Oper) (t : Nat) : has (Nat.lor (maskO o.op.operands.toList) (maskG ops.toList o.guard)) t = true ↔ Looks ops o t := by
  rw [has_or, Bool.or_eq_true, has_maskO]
  unfold Looks guardT maskG
  cases o.guard with
  | none => simp [has_zero]
  | some p => simp only [dstAt_eq, has_maskD]

/-! ### The operations of the region -/
theorem plainOF_sound {o : Oper} {F F' : OF} (h : OFS P o F) (hp : plainOF F = some F') : OFS P o F' ∧ (∀ f, F' ≠ .fork f) ∧ ∀ f, F' ≠ .next f := by
  cases F <;> simp only [plainOF, Option.some.injEq] at hp <;> subst hp
  case fork f =>
    refine ⟨fun n0 ρ H w S e v hr ho hv => ?_, by simp, by simp⟩
    obtain ⟨l, hl, hv⟩ := ob_eq_some.1 hv
    split at hv
    · obtain rfl := Option.some.inj hv
      obtain ⟨v', u, h1, h2, h3⟩ := h n0 ρ H w S e _ hr ho hl
      obtain rfl := List.mem_singleton.1 h1
      exact ⟨u, h2, h3⟩
    · cases hv
  case next f =>
    exact ⟨(fun n0 ρ H H' w S e v hr hn ho hv => by cases hv), by simp, by simp⟩
  all_goals exact ⟨h, by simp, by simp⟩
/-- What is known of one operation of the region. -/
structure DoOk (P : Program) (nt : Nat) (ops : Array Oper) (bs : List Nat) (o : Oper) (x : Do) : Prop where
  eo : x.o = o
  F : OFS P o x.F
  nf : ∀ f, x.F ≠ .fork f
  nn : ∀ f, x.F ≠ .next f
  d : ∃ d, dstE nt o.dst = some d
  b : x.b = aheadOf bs o.after.toList
  w : ∀ t, has x.w t = true ↔ o.dst = some t
  lk : ∀ t, has x.lk t = true ↔ Looks ops o t
theorem doL_spec {nt : Nat} {ops : Array Oper} : ∀ {l : List Oper} {acc : List Nat} {r : List Do}, doL P nt ops.toList l acc = some r →
    r.length = l.length ∧ ∀ (i : Nat) o, l[i]? = some o → ∃ x, r[i]? = some x ∧ DoOk P nt ops (acc ++ (r.take i).map (·.b)) o x
  | [], acc, r, h => by
    obtain rfl := Option.some.inj (show some [] = some r from h)
    simp
  | o :: l, acc, r, h => by
    obtain ⟨F0, hF0, h⟩ := ob_eq_some.1 (show ob (compOpT P o.op) (fun F => ob (plainOF F) fun F => ob (dstE nt o.dst) fun _ =>
      forceNat (aheadOf acc o.after.toList) fun b => forceNat (maskD o.dst) fun w => forceNat (Nat.lor (maskO o.op.operands.toList) (maskG ops.toList o.guard)) fun lk =>
      ob (doL P nt ops.toList l (catL acc [b])) fun r => some (⟨o, F, b, w, lk⟩ :: r)) = some r from h)
    obtain ⟨F, hF, h⟩ := ob_eq_some.1 h
    obtain ⟨d, hd, h⟩ := ob_eq_some.1 h
    simp only [forceNat_eq] at h
    obtain ⟨r', hr', h⟩ := ob_eq_some.1 h
    obtain rfl := Option.some.inj h
    rw [catL_eq] at hr'
    obtain ⟨h1, h2⟩ := doL_spec hr'
    obtain ⟨p1, p2, p3⟩ := plainOF_sound (compOpT_sound o F0 hF0) hF
    refine ⟨by simp [h1], fun i o' hi => ?_⟩
    cases i with
    | zero =>
      simp only [List.getElem?_cons_zero, Option.some.injEq] at hi
      subst hi
      exact ⟨_, rfl, rfl, p1, p2, p3, ⟨d, hd⟩, by simp, fun t => has_maskD _ _, fun t => has_lk ops o t⟩
    | succ i =>
      obtain ⟨x, h3, h4⟩ := h2 i o' (by simpa using hi)
      refine ⟨x, by simpa using h3, ?_⟩
      have e' : acc ++ (((⟨o, F, aheadOf acc o.after.toList, maskD o.dst, Nat.lor (maskO o.op.operands.toList) (maskG ops.toList o.guard)⟩ : Do) :: r').take (i + 1)).map (·.b) = acc ++ [aheadOf acc o.after.toList] ++ (r'.take i).map (·.b) := by simp
      rw [e']
      exact h4
theorem bindsA_eq (e : Edge) : bindsA e = Region.binds .any e := by
  unfold bindsA Region.binds
  cases e.ground <;> rfl
theorem aheadOf_has {acc : List Nat} : ∀ {es : List Edge} {q : Nat}, has (aheadOf acc es) q = true → ∃ e ∈ es, bindsA e = true ∧ (e.on = q ∨ ∃ b, acc[e.on]? = some b ∧ has b q = true)
  | [], q, h => by
    have h : has 0 q = true := h
    rw [has_zero] at h; cases h
  | e :: es, q, h => by
    have h : has (cnd (bindsA e) (Nat.lor (Nat.lor (bit e.on) (Option.rec (motive := fun _ => Nat) 0 (fun b => b) (nthL acc e.on))) (aheadOf acc es)) (aheadOf acc es)) q = true := h
    cases hb : bindsA e with
    | false =>
      rw [hb] at h
      obtain ⟨e', h1, h2⟩ := aheadOf_has h
      exact ⟨e', List.mem_cons_of_mem _ h1, h2⟩
    | true =>
      rw [hb] at h
      simp only [cnd_true, has_or, Bool.or_eq_true, has_bit, decide_eq_true_eq] at h
      rcases h with (h | h) | h
      · exact ⟨e, by simp, hb, .inl h⟩
      · refine ⟨e, by simp, hb, .inr ?_⟩
        rw [nthL_eq] at h
        cases hq : acc[e.on]? with
        | none => rw [hq] at h; have h : has 0 q = true := h; rw [has_zero] at h; cases h
        | some b => rw [hq] at h; exact ⟨b, rfl, h⟩
      · obtain ⟨e', h1, h2⟩ := aheadOf_has h
        exact ⟨e', List.mem_cons_of_mem _ h1, h2⟩
theorem aheadOf_on {acc : List Nat} : ∀ {es : List Edge} {e : Edge}, e ∈ es → bindsA e = true → has (aheadOf acc es) e.on = true
  | e' :: es, e, h, hb => by
    show has (cnd (bindsA e') (Nat.lor (Nat.lor (bit e'.on) _) (aheadOf acc es)) (aheadOf acc es)) e.on = true
    rcases List.mem_cons.1 h with rfl | h
    · rw [hb]
      simp only [cnd_true, has_or, has_bit, decide_true, Bool.true_or]
    · have := aheadOf_on (acc := acc) h hb
      cases hb' : bindsA e' with
      | false => exact this
      | true => simp only [cnd_true, has_or, this, Bool.or_true]

/-! ### Each temporary is laid once; whoever looks at it comes behind -/
theorem once_spec : ∀ {l : List Do} {acc : Nat}, onceD l acc = true → (∀ (i : Nat) x, l[i]? = some x → (∀ t, ¬ (has x.w t = true ∧ has acc t = true)) ∧ ∀ t, ¬ (has x.lk t = true ∧ has x.w t = true)) ∧ ∀ (i j : Nat) x y, i < j → l[i]? = some x → l[j]? = some y → ∀ t, ¬ (has x.w t = true ∧ has y.w t = true)
  | [], acc, _ => by simp
  | x :: l, acc, h => by
    obtain ⟨h1, h2⟩ := cnd_isTrue (show cnd (Nat.beq (Nat.land x.w acc) 0 && Nat.beq (Nat.land x.lk x.w) 0) (onceD l (Nat.lor x.w acc)) false = true from h)
    simp only [Bool.and_eq_true] at h1
    obtain ⟨h3, h4⟩ := once_spec h2
    refine ⟨fun i y hi => ?_, fun i j y z hij hi hj t => ?_⟩
    · cases i with
      | zero =>
        simp only [List.getElem?_cons_zero, Option.some.injEq] at hi
        subst hi
        exact ⟨disj_spec h1.1, disj_spec h1.2⟩
      | succ i =>
        obtain ⟨h5, h6⟩ := h3 i y (by simpa using hi)
        exact ⟨fun t ⟨a, b⟩ => h5 t ⟨a, by rw [has_or, b]; simp⟩, h6⟩
    · cases j with
      | zero => omega
      | succ j =>
        cases i with
        | zero =>
          simp only [List.getElem?_cons_zero, Option.some.injEq] at hi
          subst hi
          rintro ⟨a, b⟩
          exact (h3 j z (by simpa using hj)).1 t ⟨b, by rw [has_or, a]; simp⟩
        | succ i => exact h4 i j y z (by omega) (by simpa using hi) (by simpa using hj) t
theorem laidBy_spec {free b j : Nat} : ∀ {l : List Do} {i0 : Nat} {t : Nat}, has (laidBy free b j l i0) t = false → ∀ (i : Nat) y, l[i]? = some y → has y.w t = true → has b (i0 + i) = true ∨ i0 + i = j ∨ i0 + i = free
  | [], i0, t, _, i, y, hi, _ => by simp at hi
  | z :: l, i0, t, h, i, y, hi, hw => by
    have h : has (cnd (has b i0) (laidBy free b j l (Nat.succ i0)) (cnd (Nat.beq i0 j) (laidBy free b j l (Nat.succ i0)) (cnd (Nat.beq i0 free) (laidBy free b j l (Nat.succ i0)) (Nat.lor z.w (laidBy free b j l (Nat.succ i0)))))) t = false := h
    rw [nbeq, nbeq] at h
    have tail : has (laidBy free b j l (Nat.succ i0)) t = false := by
      by_cases h1 : has b i0 = true
      · rw [h1] at h; exact h
      · have h1 : has b i0 = false := by simpa using h1
        rw [h1] at h
        by_cases h2 : i0 = j
        · rw [decide_eq_true h2] at h; exact h
        · rw [decide_eq_false h2] at h
          by_cases h3 : i0 = free
          · rw [decide_eq_true h3] at h; exact h
          · rw [decide_eq_false h3] at h
            simp only [cnd_false, has_or, Bool.or_eq_false_iff] at h
            exact h.2
    cases i with
    | zero =>
      simp only [List.getElem?_cons_zero, Option.some.injEq] at hi
      subst hi
      rw [Nat.add_zero]
      by_cases h1 : has b i0 = true
      · exact .inl h1
      · have h1 : has b i0 = false := by simpa using h1
        rw [h1] at h
        by_cases h2 : i0 = j
        · exact .inr (.inl h2)
        · rw [decide_eq_false h2] at h
          by_cases h3 : i0 = free
          · exact .inr (.inr h3)
          · rw [decide_eq_false h3] at h
            simp only [cnd_false, has_or, Bool.or_eq_false_iff] at h
            rw [hw] at h
            cases h.1
    | succ i =>
      have := laidBy_spec tail i y (by simpa using hi) hw
      rw [show i0 + (i + 1) = Nat.succ i0 + i by omega]
      exact this
theorem plainJ_spec {all : List Do} {free : Nat} : ∀ {l : List Do} {j0 : Nat}, plainJ all free l j0 = true → ∀ (j : Nat) x, l[j]? = some x → ∀ t, ¬ (has x.lk t = true ∧ has (laidBy free x.b (j0 + j) all 0) t = true)
  | [], j0, _, j, x, hj => by simp at hj
  | y :: l, j0, h, j, x, hj => by
    obtain ⟨h1, h2⟩ := cnd_isTrue (show cnd (Nat.beq (Nat.land y.lk (laidBy free y.b j0 all 0)) 0) (plainJ all free l (Nat.succ j0)) false = true from h)
    cases j with
    | zero =>
      simp only [List.getElem?_cons_zero, Option.some.injEq] at hj
      subst hj
      exact disj_spec h1
    | succ j =>
      have := plainJ_spec h2 j x (by simpa using hj)
      rw [show j0 + (j + 1) = Nat.succ j0 + j by omega]
      exact this
/-- Which operation may lay what others look at: the last, if all are ahead of it; else none. -/
noncomputable def freeOf (l : List Do) : Nat := cnd (lastOk l (Nat.sub (lenL l) 1)) (Nat.sub (lenL l) 1) (lenL l)
theorem free_spec {l : List Do} {m : Nat} {x : Do} (h : freeOf l = m) (hx : l[m]? = some x) : ∀ q, q < l.length → q ≠ m → has x.b q = true := by
  have hlt : m < l.length := (List.getElem?_eq_some_iff.1 hx).1
  unfold freeOf at h
  rw [lenL_eq] at h
  cases hl : lastOk l (Nat.sub l.length 1) with
  | false => rw [hl] at h; simp only [cnd_false] at h; omega
  | true =>
    rw [hl] at h
    simp only [cnd_true] at h
    subst h
    unfold lastOk at hl
    rw [nthL_eq, hx] at hl
    intro q hq hne
    refine sub_spec.1 hl q ?_
    have hq' : q < l.length - 1 := by
      have : q ≠ l.length - 1 := hne
      omega
    rw [has_eq]
    have : Nat.sub (bit (Nat.sub l.length 1)) 1 = 2 ^ (l.length - 1) - 1 := by
      unfold bit
      show 1 <<< (l.length - 1) - 1 = _
      rw [Nat.one_shiftLeft]
    rw [this, Nat.testBit_two_pow_sub_one]
    simpa using hq'
theorem plainD_spec {l : List Do} (h : plainD l = true) :
    (∀ (i j : Nat) x y, i ≠ j → l[i]? = some x → l[j]? = some y → ∀ t, ¬ (has x.w t = true ∧ has y.w t = true)) ∧ (∀ (i : Nat) x, l[i]? = some x → ∀ t, ¬ (has x.lk t = true ∧ has x.w t = true)) ∧
    ∀ (i j : Nat) y x, l[i]? = some y → l[j]? = some x → i ≠ j → ∀ t, has y.w t = true → has x.lk t = true → has x.b i = true ∨ i = freeOf l := by
  obtain ⟨h1, h2⟩ := cnd_isTrue (show cnd (onceD l 0) (plainJ l (freeOf l) l 0) false = true from h)
  obtain ⟨h3, h4⟩ := once_spec h1
  refine ⟨fun i j x y hne hi hj t => ?_, fun i x hi => (h3 i x hi).2, fun i j y x hi hj hne t hw hlk => ?_⟩
  · rcases Nat.lt_or_gt_of_ne hne with hlt | hlt
    · exact h4 i j x y hlt hi hj t
    · exact fun ⟨a, b⟩ => h4 j i y x hlt hj hi t ⟨b, a⟩
  · have h5 := plainJ_spec h2 j x hj t
    rw [Nat.zero_add] at h5
    have h6 : has (laidBy (freeOf l) x.b j l 0) t = false := by
      cases hh : has (laidBy (freeOf l) x.b j l 0) t with
      | false => rfl
      | true => exact absurd ⟨hlk, hh⟩ h5
    rcases laidBy_spec h6 i y hi hw with h7 | h7 | h7
    · rw [Nat.zero_add] at h7; exact .inl h7
    · rw [Nat.zero_add] at h7; exact absurd h7 hne
    · rw [Nat.zero_add] at h7; exact .inr h7
theorem readsD_spec : ∀ {l : List Do} {i0 : Nat} (i : Nat) x, l[i]? = some x → x.isRead = true → has (readsD l i0) (i0 + i) = true
  | [], i0, i, x, h, _ => by simp at h
  | y :: l, i0, i, x, h, hr => by
    show has (cnd y.isRead (Nat.lor (bit i0) (readsD l (Nat.succ i0))) (readsD l (Nat.succ i0))) (i0 + i) = true
    cases i with
    | zero =>
      simp only [List.getElem?_cons_zero, Option.some.injEq] at h
      subst h
      rw [hr]
      simp only [cnd_true, has_or, has_bit, Nat.add_zero, decide_true, Bool.true_or]
    | succ i =>
      have := readsD_spec (i0 := Nat.succ i0) i x (by simpa using h) hr
      rw [show Nat.succ i0 + i = i0 + (i + 1) by omega] at this
      cases y.isRead with
      | true => simp only [cnd_true, has_or, this, Bool.or_true]
      | false => exact this
theorem actOk_spec {i done : Nat} : ∀ {l : List Do} {j0 : Nat}, actOk i done l j0 = true → ∀ (j : Nat) y, l[j]? = some y → has done (j0 + j) = true ∨ (y.isAct = true ∧ (j0 + j = i ∨ has y.b i = true)) ∨ (y.isAct = false ∧ sub? y.b done = false)
  | [], j0, _, j, y, hj => by simp at hj
  | z :: l, j0, h, j, y, hj => by
    obtain ⟨h1, h2⟩ := cnd_isTrue (show cnd (cnd (has done j0) true (cnd z.isAct (cnd (Nat.beq j0 i) true (has z.b i)) (cnd (sub? z.b done) false true))) (actOk i done l (Nat.succ j0)) false = true from h)
    cases j with
    | zero =>
      simp only [List.getElem?_cons_zero, Option.some.injEq] at hj
      subst hj
      rw [Nat.add_zero]
      cases hd : has done j0 with
      | true => exact .inl rfl
      | false =>
        rw [hd] at h1
        simp only [cnd_false] at h1
        cases ha : z.isAct with
        | true =>
          rw [ha] at h1
          simp only [cnd_true] at h1
          rw [nbeq] at h1
          by_cases e : j0 = i
          · exact .inr (.inl ⟨rfl, .inl e⟩)
          · rw [decide_eq_false e] at h1
            exact .inr (.inl ⟨rfl, .inr h1⟩)
        | false =>
          rw [ha] at h1
          simp only [cnd_false] at h1
          refine .inr (.inr ⟨rfl, ?_⟩)
          cases hs : sub? z.b done with
          | false => rfl
          | true => rw [hs] at h1; cases h1
    | succ j =>
      have := actOk_spec h2 j y (by simpa using hj)
      rw [show Nat.succ j0 + j = j0 + (j + 1) by omega] at this
      exact this
end Go.Ab
