/- The abstract machine, 7: what the operations that only read come to is what the model's come to. -/
import Derived.Test.YtbnieocmjafidaaGreatAc6
set_option linter.unusedVariables false
set_option linter.unusedSimpArgs false
namespace Go.Ab
variable {P : Program}

/-! ### Of what kind a value is -/
theorem onInt_some {α : Type} {f : IntKind → Int → Option α} {x : AV} {r : α} (h : onInt f none x = some r) : ∃ k n, x = .int k n ∧ f k n = some r := by
  cases x <;> first | cases h | exact ⟨_, _, rfl, h⟩
theorem onPtr_some {α : Type} {f : Pa → Nat → Option α} {x : AV} {r : α} (h : onPtr f none x = some r) : ∃ b o, x = .ptr b o ∧ f b o = some r := by
  cases x <;> first | cases h | exact ⟨_, _, rfl, h⟩
theorem onSlice_some {α : Type} {f : Pa → Nat → Nat → Nat → Option Nat → Option α} {x : AV} {r : α} (h : onSlice f none x = some r) : ∃ b o l c op, x = .slice b o l c op ∧ f b o l c op = some r := by
  cases x <;> first | cases h | exact ⟨_, _, _, _, _, rfl, h⟩
theorem onAgg_some {α : Type} {f : List AV → Option α} {x : AV} {r : α} (h : onAgg f none x = some r) : ∃ cs, x = .agg cs ∧ f cs = some r := by
  cases x <;> first | cases h | exact ⟨_, rfl, h⟩
theorem onTup_some {α : Type} {f : List AV → Option α} {x : AV} {r : α} (h : onTup f none x = some r) : ∃ cs, x = .tuple cs ∧ f cs = some r := by
  cases x <;> first | cases h | exact ⟨_, rfl, h⟩
theorem onBool_some {α : Type} {f : Bool → Option α} {x : AV} {r : α} (h : onBool f none none x = some r) : ∃ b, x = .bool b ∧ f b = some r := by
  cases x <;> first | cases h | exact ⟨_, rfl, h⟩
theorem onMap_some {α : Type} {f : Ents → Nat → Option α} {x : Option AB} {r : α} (h : onMap f x = some r) : ∃ es c, x = some (.map es c) ∧ f es c = some r := by
  unfold onMap at h
  split at h
  · exact ⟨_, _, rfl, h⟩
  · cases h

/-! ### Types -/
theorem sz_run {t : TypeId} {n : Nat} (h : sz P t = some n) (w : World) : (sizeOf t).run P w = .ok n w := by
  obtain ⟨i, h1, h2⟩ := ob_eq_some.1 h
  simp only [Option.some.injEq] at h2
  simp [sizeOf, typeInfo, h1, h2]
theorem under_run {t : TypeId} {d : TypeDesc} (h : P.underlying t = some d) (w : World) : (underlying t).run P w = .ok d w := by simp [underlying, h]
theorem agg_run {t : TypeId} {b : Bool} (h : aggT P t = some b) (w : World) : (isAgg t).run P w = .ok b w := by
  obtain ⟨d, h1, h2⟩ := ob_eq_some.1 h
  simp only [isAgg, Sem.run_bind, under_run h1, Result.andThen]
  split at h2 <;> simp only [Option.some.injEq] at h2 <;> subst h2 <;> simp_all
theorem zero_run {t : TypeId} {z : AV} (h : zeroOf P t = some z) (w : World) : ∃ v, (zeroValue t).run P w = .ok v w ∧ absV v = some z := by
  obtain ⟨i, h1, h2⟩ := ob_eq_some.1 h
  obtain ⟨v, h3, h4⟩ := ob_eq_some.1 h2
  exact ⟨v, by simp [zeroValue, typeInfo, h1, h3], h4⟩
theorem zeros_run {t : TypeId} {zs : List AV} (h : zeros P t = some zs) (w : World) : ∃ v n, (zeroValue t).run P w = .ok v w ∧ sz P t = some n ∧ v.cells.size = n ∧ zs.length = n ∧ (∀ ρ, VRs ρ zs v.cells.toList) ∧ ∀ u ∈ v.cells.toList, u.oneCell' = true := by
  obtain ⟨z, h1, h2⟩ := ob_eq_some.1 h
  obtain ⟨zs', h3, h4⟩ := ob_eq_some.1 h2
  obtain ⟨n, h5, h6⟩ := ob_eq_some.1 h4
  obtain ⟨h7, h8⟩ := cond_some h6
  simp only [Option.some.injEq] at h8
  subst h8
  obtain ⟨v, h9, h10⟩ := zero_run h1 w
  rw [lenL_eq, nbeq, decide_eq_true_eq] at h7
  have hc := (absV_sound (ρ := fun _ => none) h10).cells h3
  refine ⟨v, n, h9, h5, ?_, h7, fun ρ => ((absV_sound h10).cells h3).1, hc.2⟩
  have := VRs_length hc.1
  simp at this; omega

theorem run_v {s : Sem Value} {w w' : World} {v : Value} (h : s.run P w = .ok v w') : (do pure (Next.value (← s)) : Sem Next).run P w = .ok (.value v) w' := by
  simp [Sem.run_bind, h, Result.andThen]
theorem run_u {s : Sem Unit} {w w' : World} (h : s.run P w = .ok () w') : (do s; pure Next.skip : Sem Next).run P w = .ok .skip w' := by
  simp [Sem.run_bind, h, Result.andThen]

/-! ### Parts -/
theorem part_sound {t : TypeId} {f : Nat → List AV → Option AV} (hf : partOf P t = some f) {ρ : Rho} {cs : List AV} {vs : Array Value} (hv : VRs ρ cs vs.toList) (h1 : ∀ u ∈ vs.toList, u.oneCell' = true)
    {off : Nat} {v : AV} (h : f off cs = some v) (w : World) : ∃ v', (part t vs off).run P w = .ok v' w ∧ VR ρ v v' := by
  obtain ⟨a, ha, hf⟩ := ob_eq_some.1 hf
  obtain ⟨n, hn, hf⟩ := ob_eq_some.1 hf
  cases a with
  | true =>
    simp only [cond_true, Option.some.injEq] at hf
    subst hf
    obtain ⟨r, hr, h⟩ := ob_eq_some.1 h
    simp only [Option.some.injEq] at h
    subst h
    rw [dropL_eq] at hr
    obtain ⟨hl, hg⟩ := takeN_spec hr
    have hlen := VRs_length hv
    have hle : n = 0 ∨ off + n ≤ vs.size := by
      by_cases hn0 : n = 0
      · exact .inl hn0
      · right
        have h2 := hg (n - 1) r[n - 1] (List.getElem?_eq_getElem (by omega))
        rw [List.getElem?_drop] at h2
        have := (List.getElem?_eq_some_iff.1 h2).1
        simp at hlen; omega
    refine ⟨.agg (vs.extract off (off + n)), by simp [part, agg_run ha w, sz_run hn w, Sem.run_bind, Result.andThen], _, rfl, VRs_of ?_ fun i b hi => ?_, fun u hu => ?_⟩
    · simp; omega
    · have h2 := hg i b hi
      rw [List.getElem?_drop] at h2
      obtain ⟨u, h3, h4⟩ := VRs_get hv _ _ h2
      refine ⟨u, ?_, h4⟩
      have hi' : i < n := by rw [← hl]; exact (List.getElem?_eq_some_iff.1 hi).1
      have h3' : vs[off + i]? = some u := by simpa using h3
      simp only [Array.toList_extract, List.extract_eq_take_drop, Nat.add_sub_cancel_left, List.getElem?_take, hi', if_true, List.getElem?_drop]
      exact h3
    · apply h1
      simp only [Array.toList_extract, List.extract_eq_take_drop] at hu
      exact List.mem_of_mem_drop (List.mem_of_mem_take hu)
  | false =>
    simp only [cond_false, Option.some.injEq] at hf
    subst hf
    unfold partS at h
    rw [nthL_eq] at h
    obtain ⟨u, h3, h4⟩ := VRs_get hv _ _ h
    have h3' : vs[off]? = some u := by simpa using h3
    exact ⟨u, by simp [part, agg_run ha w, Sem.run_bind, Result.andThen, h3'], h4⟩

theorem load_sound {t : TypeId} {f : Nat → List AV → Option AV} (hf : partOf P t = some f) {n0 : Nat} {ρ : Rho} {H : AH} {w : World} (hr : HQ P n0 ρ H w) {x v : AV} {vx : Value} (hx : VR ρ x vx)
    (h : onPtr (fun b off => onBlk (fun cs _ => f off cs) none (H.get b)) none x = some v) : ∃ v', (Instr.loadAt t vx).run P w = .ok v' w ∧ VR ρ v v' := by
  obtain ⟨b, off, rfl, h⟩ := onPtr_some h
  obtain ⟨cs, cl, hb, h⟩ := onBlk_some h
  simp only [VR] at hx
  obtain ⟨l, hl, rfl⟩ := hx
  obtain ⟨a, ha, hf⟩ := ob_eq_some.1 hf
  obtain ⟨n, hn, hf⟩ := ob_eq_some.1 hf
  cases a with
  | true =>
    simp only [cond_true, Option.some.injEq] at hf
    subst hf
    obtain ⟨r, hrr, h⟩ := ob_eq_some.1 h
    simp only [Option.some.injEq] at h
    subst h
    obtain ⟨vs, h1, h2, h3, h4⟩ := hr.row hl hb hrr
    refine ⟨.agg vs.toArray, ?_, _, rfl, by simpa using h2, by simpa using h3⟩
    have := run_loadCells_list (P := P) w ⟨l.c, l.s + off, none⟩ vs h4
    rw [h1] at this
    simp [Instr.loadAt, Instr.sureAddr, loadVar, Sem.run_bind, agg_run ha w, sz_run hn w, Result.andThen, this]
  | false =>
    simp only [cond_false, Option.some.injEq] at hf
    subst hf
    unfold partS at h
    rw [nthL_eq] at h
    obtain ⟨u, h1, h2, _⟩ := hr.cell hl hb h
    exact ⟨u, by simp [Instr.loadAt, Instr.sureAddr, loadVar, Sem.run_bind, agg_run ha w, Result.andThen, h1], h2⟩

/-! ### Numbers, comparisons -/
theorem bounds_sound {ρ : Rho} {x : AV} {k : IntKind} {a b : Int} {v : Value} (h : bounds x = some (k, a, b)) (hv : VR ρ x v) : ∃ n, v = .int k n ∧ a ≤ n ∧ n ≤ b := by
  cases x <;> simp only [bounds, Option.some.injEq, Prod.mk.injEq] at h <;> (try (cases h; done))
  · obtain ⟨rfl, rfl, rfl⟩ := h
    exact ⟨_, hv, Int.le_refl _, Int.le_refl _⟩
  · obtain ⟨rfl, rfl, rfl⟩ := h
    exact hv
theorem inKind_wrap {k : IntKind} {n : Int} (h1 : k.min ≤ n) (h2 : n ≤ k.max) : k.wrap n = n := by
  cases k <;> simp [IntKind.min, IntKind.max, IntKind.signed, IntKind.bits] at h1 h2 <;> simp [IntKind.wrap, IntKind.bits, IntKind.signed] <;> omega
theorem inKind_iff {k : IntKind} {n : Int} (h : inKind k n = true) : k.min ≤ n ∧ n ≤ k.max := by
  unfold inKind at h
  rw [leI_eq, leI_eq] at h
  by_cases h1 : k.min ≤ n
  · simp [h1] at h; exact ⟨h1, h⟩
  · simp [h1] at h
theorem rcmp_sound {ρ : Rho} {t : TypeId} {op : BinOp} (hc : isCmp op = true) {k : IntKind} {a b c d m n : Int} (h1 : a ≤ m) (h2 : m ≤ b) (h3 : c ≤ n) (h4 : n ≤ d) (w : World) :
    ∃ v', (binOp op t (.int k m) (.int k n)).run P w = .ok v' w ∧ VR ρ (rcmp op a b c d) v' := by
  cases op <;> first | (cases hc; done) | skip
  case lss =>
    refine ⟨.bool (decide (m < n)), by simp [binOp, Op.intCmp], ?_⟩
    simp only [rcmp, ltI_eq, leI_eq]
    by_cases e1 : b < c
    · simp [e1, VR]; omega
    · by_cases e2 : d ≤ a
      · simp [e1, e2, VR]; omega
      · simp [e1, e2, VR]
  case leq =>
    refine ⟨.bool (decide (m ≤ n)), by simp [binOp, Op.intCmp], ?_⟩
    simp only [rcmp, ltI_eq, leI_eq]
    by_cases e1 : b ≤ c
    · simp [e1, VR]; omega
    · by_cases e2 : d < a
      · simp [e1, e2, VR]; omega
      · simp [e1, e2, VR]
  case gtr =>
    refine ⟨.bool (decide (m > n)), by simp [binOp, Op.intCmp], ?_⟩
    simp only [rcmp, ltI_eq, leI_eq]
    by_cases e1 : d < a
    · simp [e1, VR]; omega
    · by_cases e2 : b ≤ c
      · simp [e1, e2, VR]; omega
      · simp [e1, e2, VR]
  case geq =>
    refine ⟨.bool (decide (m ≥ n)), by simp [binOp, Op.intCmp], ?_⟩
    simp only [rcmp, ltI_eq, leI_eq]
    by_cases e1 : d ≤ a
    · simp [e1, VR]; omega
    · by_cases e2 : b < c
      · simp [e1, e2, VR]; omega
      · simp [e1, e2, VR]
  case eql =>
    refine ⟨.bool (m == n), by simp [binOp, Op.intCmp], ?_⟩
    simp only [rcmp, ltI_eq, leI_eq]
    by_cases e1 : b < c
    · simp [e1, VR]; omega
    · by_cases e2 : d < a
      · simp [e1, e2, VR]; omega
      · simp [e1, e2, VR]
  case neq =>
    refine ⟨.bool (m != n), by simp [binOp, Op.intCmp], ?_⟩
    simp only [rcmp, ltI_eq, leI_eq]
    by_cases e1 : b < c
    · simp [e1, VR]; omega
    · by_cases e2 : d < a
      · simp [e1, e2, VR]; omega
      · simp [e1, e2, VR]
theorem rngV_sound {ρ : Rho} {op : BinOp} {t : TypeId} {x y v : AV} {vx vy : Value} (hop : isCmp op = true ∨ op = .add ∨ op = .sub ∨ op = .and ∨ op = .rem) (hx : VR ρ x vx) (hy : VR ρ y vy) (h : rngV op x y = some v) (w : World) :
    ∃ v', (binOp op t vx vy).run P w = .ok v' w ∧ VR ρ v v' := by
  obtain ⟨⟨k, a, b⟩, hp, h⟩ := ob_eq_some.1 h
  obtain ⟨⟨k', c, d⟩, hq, h⟩ := ob_eq_some.1 h
  obtain ⟨m, rfl, h1, h2⟩ := bounds_sound hp hx
  obtain ⟨n, rfl, h3, h4⟩ := bounds_sound hq hy
  obtain ⟨hk, h⟩ := cond_some h
  have hk := kEq_iff hk
  simp only at hk
  subst hk
  cases hc : isCmp op with
  | true =>
    simp only [hc, cond_true, Option.some.injEq] at h
    subst h
    exact rcmp_sound hc h1 h2 h3 h4 w
  | false =>
    simp only [hc, cond_false] at h
    rcases hop with hop | rfl | rfl | rfl | rfl
    · rw [hc] at hop; cases hop
    · obtain ⟨hi, h⟩ := cond_some h
      simp only [Option.some.injEq] at h
      subst h
      simp only [Bool.and_eq_true] at hi
      have e := inKind_wrap (k := k) (n := m + n) (by have := (inKind_iff hi.1).1; omega) (by have := (inKind_iff hi.2).2; omega)
      exact ⟨.int k (m + n), by simp [binOp, Op.intArith, e], m + n, rfl, by omega, by omega⟩
    · obtain ⟨hi, h⟩ := cond_some h
      simp only [Option.some.injEq] at h
      subst h
      simp only [Bool.and_eq_true] at hi
      have e := inKind_wrap (k := k) (n := m - n) (by have := (inKind_iff hi.1).1; omega) (by have := (inKind_iff hi.2).2; omega)
      exact ⟨.int k (m - n), by simp [binOp, Op.intArith, e], m - n, rfl, by omega, by omega⟩
    · obtain ⟨hi, h⟩ := cond_some h
      simp only [Option.some.injEq] at h
      subst h
      simp only [Bool.and_eq_true, eqI_eq, leI_eq, decide_eq_true_eq] at hi
      obtain ⟨⟨e1, e2⟩, e3⟩ := hi
      have e4 : n = c := by omega
      subst e4
      refine ⟨.int k (k.wrap (BitVec.ofInt k.bits m &&& BitVec.ofInt k.bits n).toNat), by simp [binOp, Op.intBits], _, rfl, ?_⟩
      obtain ⟨h5, h6⟩ := inKind_iff e3
      obtain ⟨q, rfl⟩ : ∃ q : Nat, n = Int.ofNat q := ⟨n.toNat, by simp; omega⟩
      have hq2 : q < 2 ^ k.bits := by
        have h7 : (q : Int) ≤ k.max := h6
        cases k <;> simp [IntKind.max, IntKind.signed, IntKind.bits] at h7 ⊢ <;> omega
      have hq3 : (BitVec.ofInt k.bits (Int.ofNat q)).toNat = q := by
        rw [BitVec.toNat_ofInt]
        have : (Int.ofNat q) % ((2 ^ k.bits : Nat) : Int) = (q : Int) := Int.emod_eq_of_lt (by simp) (by show (q : Int) < _; exact_mod_cast hq2)
        rw [this]; rfl
      have hle : (BitVec.ofInt k.bits m &&& BitVec.ofInt k.bits (Int.ofNat q)).toNat ≤ q := by
        rw [BitVec.toNat_and, hq3]; exact Nat.and_le_right
      have h7 : (q : Int) ≤ k.max := h6
      have hmin : k.min ≤ 0 := by cases k <;> decide
      rw [inKind_wrap (k := k) (n := ((BitVec.ofInt k.bits m &&& BitVec.ofInt k.bits (Int.ofNat q)).toNat : Int)) (by omega) (by omega)]
      constructor
      · omega
      · show ((BitVec.ofInt k.bits m &&& BitVec.ofInt k.bits (Int.ofNat q)).toNat : Int) ≤ (q : Int)
        omega
    · obtain ⟨hi, h⟩ := cond_some h
      simp only [Option.some.injEq] at h
      subst h
      simp only [Bool.and_eq_true, eqI_eq, ltI_eq, leI_eq, decide_eq_true_eq] at hi
      obtain ⟨⟨e1, e2⟩, e3⟩ := hi
      have e4 : n = c := by omega
      subst e4
      have hn : n ≠ 0 := by omega
      refine ⟨.int k (m.tmod n), by simp [binOp, Op.intDiv, hn], m.tmod n, rfl, Int.tmod_nonneg _ (by omega), ?_⟩
      have := Int.tmod_lt_of_pos m e2
      omega
theorem intsV_sound {ρ : Rho} {op : BinOp} {f : IntKind → Int → Int → Option AV} {t : TypeId} {x y v : AV} {vx vy : Value} (hx : VR ρ x vx) (hy : VR ρ y vy) (w : World)
    (hop : (isCmp op = true ∨ op = .add ∨ op = .sub ∨ op = .and ∨ op = .rem) ∨ ∀ k a b c d, rarith op k a b c d = none ∧ isCmp op = false)
    (hf : ∀ k a b r, f k a b = some r → ∃ v', (binOp op t (.int k a) (.int k b)).run P w = .ok v' w ∧ VR ρ r v') (h : intsV f op x y = some v) :
    ∃ v', (binOp op t vx vy).run P w = .ok v' w ∧ VR ρ v v' := by
  have hr : rngV op x y = some v → ∃ v', (binOp op t vx vy).run P w = .ok v' w ∧ VR ρ v v' := fun hh => by
    rcases hop with hop | hop
    · exact rngV_sound hop hx hy hh w
    · obtain ⟨⟨k, a, b⟩, hp, hh⟩ := ob_eq_some.1 hh
      obtain ⟨⟨k', c, d⟩, hq, hh⟩ := ob_eq_some.1 hh
      obtain ⟨hk, hh⟩ := cond_some hh
      obtain ⟨e1, e2⟩ := hop k a b c d
      simp only [e2, cond_false, e1] at hh
      cases hh
  cases x <;> first | exact hr h | skip
  rename_i k a
  cases y <;> first | exact hr h | skip
  rename_i k' b
  have h : cnd (kEq k k') (f k a b) none = some v := h
  obtain ⟨hk, h3⟩ := cnd_some h
  clear h
  have hk := kEq_iff hk
  subst hk
  simp only [VR] at hx hy
  subst hx hy
  exact hf _ _ _ _ h3
end Go.Ab
