/- The abstract machine, 9: the operations that only read, one by one. -/
import Derived.Test.YtbnieocmjafidaaGreatAc8
import Derived.Laws.Strings
set_option linter.unusedVariables false
set_option linter.unusedSimpArgs false
namespace Go.Ab
variable {P : Program}

theorem addr_add' (a : Addr) (hs : a.spot = none) (n : Nat) : a.add n = ⟨a.block, a.off + n, none⟩ := by
  obtain ⟨b, o, s⟩ := a
  simp only at hs
  subst hs
  exact addr_add _ _ _
theorem fieldAt_sound {s : TypeId} {fields : Array Field} {i n : Nat} {f : Field} (hu : P.underlying s = some (.struct fields)) (hf : fields.toList[i]? = some f) (hn : sz P f.type = some n) (h0 : n ≠ 0) {ρ : Rho} {x v : AV} {vx : Value} (hx : VR ρ x vx)
    (h : onPtr (fun b o => some (AV.ptr b (Nat.add o f.offset))) none x = some v) (w : World) : ∃ v', (Instr.fieldAt s vx i).run P w = .ok v' w ∧ VR ρ v v' := by
  obtain ⟨b, o, rfl, h⟩ := onPtr_some h
  obtain rfl := Option.some.inj h
  simp only [VR] at hx
  obtain ⟨l, hl, rfl⟩ := hx
  have hf' : fields[i]? = some f := by simpa using hf
  refine ⟨.pointer (some ⟨l.c, l.s + o + f.offset, none⟩), ?_, l, hl, by rw [Nat.add_assoc]; rfl⟩
  simp [Instr.fieldAt, Sem.run_bind, under_run hu, Result.andThen, hf', Instr.sureAddr, fieldPlace, sz_run hn, h0, addr_add]
theorem field_sound {s : TypeId} {fields : Array Field} {i : Nat} {f : Field} {g : Nat → List AV → Option AV} (hu : P.underlying s = some (.struct fields)) (hf : fields.toList[i]? = some f) (hg : partOf P f.type = some g) {ρ : Rho} {x v : AV} {vx : Value} (hx : VR ρ x vx)
    (h : onAgg (g f.offset) none x = some v) (w : World) : ∃ v', (Instr.field s vx i).run P w = .ok v' w ∧ VR ρ v v' := by
  obtain ⟨cs, rfl, h⟩ := onAgg_some h
  simp only [VR] at hx
  obtain ⟨vs, rfl, h1, h2⟩ := hx
  have hf' : fields[i]? = some f := by simpa using hf
  obtain ⟨v', h3, h4⟩ := part_sound hg h1 h2 h w
  exact ⟨v', by simp [Instr.field, Sem.run_bind, under_run hu, Result.andThen, hf', asAgg, h3], h4⟩
theorem idx_range (lo m k : Nat) (h : k < m) : lo + k ∈ (Nat.rec (motive := fun _ => List Nat) [] (fun k ih => Nat.add lo k :: ih) m : List Nat) := by
  induction m with
  | zero => omega
  | succ m ih =>
    show lo + k ∈ (lo + m) :: _
    by_cases e : k = m
    · subst e; simp
    · exact List.mem_cons_of_mem _ (ih (by omega))
theorem idxs_sound {ρ : Rho} {len : Nat} {x : AV} {is : List Nat} {v : Value} (h : idxs len x = some is) (hv : VR ρ x v) : ∃ k i, v = .int k (Int.ofNat i) ∧ i < len ∧ i ∈ is := by
  cases x <;> first | (cases h; done) | skip
  · rename_i k n
    have h : (Int.rec (motive := fun _ => Option (List Nat)) (fun i => cnd (Nat.ble (Nat.succ i) len) (some [i]) none) (fun _ => none) n : Option (List Nat)) = some is := h
    cases n with
    | negSucc n => cases h
    | ofNat n =>
      obtain ⟨h1, h2⟩ := cnd_some (show cnd (Nat.ble (Nat.succ n) len) (some [n]) none = some is from h)
      obtain rfl := Option.some.inj h2
      exact ⟨k, n, hv, Nat.le_of_ble_eq_true h1, by simp⟩
  · rename_i k lo hi
    have h : idxR len (.rng k lo hi) = some is := h
    unfold idxR at h
    obtain ⟨n, rfl, h1, h2⟩ := hv
    cases lo with
    | negSucc lo => simp at h
    | ofNat lo => cases hi with
      | negSucc hi => simp at h
      | ofNat hi =>
        simp only at h
        obtain ⟨h3, h4⟩ := cond_some h
        obtain rfl := Option.some.inj h4
        rw [nblt, decide_eq_true_eq] at h3
        obtain ⟨q, rfl⟩ : ∃ q : Nat, n = Int.ofNat q := ⟨n.toNat, by simp at h1 ⊢; omega⟩
        have e1 : lo ≤ q := by simpa using h1
        have e2 : q ≤ hi := by simpa using h2
        refine ⟨k, q, rfl, by omega, ?_⟩
        have := idx_range lo (Nat.sub (Nat.succ hi) lo) (q - lo) (by show q - lo < (hi + 1) - lo; omega)
        rwa [show lo + (q - lo) = q by omega] at this
theorem indexAt_sound {t elem : TypeId} {n : Nat} (hu : P.underlying t = some (.slice elem)) (hn : sz P elem = some n) {ρ : Rho} {S : AS} {H : AH} {x i : Opd} {vs : List AV} {vx vi : Value} (hx : VR ρ (x S) vx) (hi : VR ρ (i S) vi)
    (h : ixaS n x i S H = some vs) (w : World) : ∃ v v', v ∈ vs ∧ (Instr.indexAt t vx vi).run P w = .ok v' w ∧ VR ρ v v' := by
  obtain ⟨b, o, l, c, op, hxe, h⟩ := onSlice_some h
  obtain ⟨is, hi1, h⟩ := ob_eq_some.1 h
  obtain rfl := Option.some.inj h
  rw [hxe] at hx
  simp only [VR] at hx
  obtain ⟨lc, cap', hl, rfl, _⟩ := hx
  obtain ⟨k, j, rfl, hj, hmem⟩ := idxs_sound hi1 hi
  refine ⟨.ptr b (Nat.add o (Nat.mul j n)), .pointer (some ⟨lc.c, lc.s + o + j * n, none⟩), ?_, ?_, lc, hl, by rw [Nat.add_assoc]; rfl⟩
  · rw [mapL_eq]; exact List.mem_map.2 ⟨j, hmem, rfl⟩
  · have h1 : (0 : Int) ≤ Int.ofNat j ∧ Int.ofNat j < (l : Int) := ⟨by simp, by simpa using hj⟩
    have h2 : (0 : Int) ≤ (j : Int) ∧ (j : Int) < (l : Int) := h1
    simp [Instr.indexAt, Sem.run_bind, under_run hu, Result.andThen, asIntOf, hj, sz_run hn, addr_add]
theorem index_array_sound {t elem : TypeId} {len n : Nat} {g : Nat → List AV → Option AV} (hu : P.underlying t = some (.array len elem)) (hn : sz P elem = some n) (hg : partOf P elem = some g) {ρ : Rho} {S : AS} {H : AH} {x i : Opd} {vs : List AV} {vx vi : Value} (hx : VR ρ (x S) vx) (hi : VR ρ (i S) vi)
    (h : ixA g len n x i S H = some vs) (w : World) : ∃ v v', v ∈ vs ∧ (Instr.index t vx vi).run P w = .ok v' w ∧ VR ρ v v' := by
  unfold ixA at h
  split at h
  · rename_i cs hxe
    obtain ⟨is, hi1, h⟩ := ob_eq_some.1 h
    rw [hxe] at hx
    simp only [VR] at hx
    obtain ⟨us, rfl, h1, h2⟩ := hx
    obtain ⟨k, j, rfl, hj, hmem⟩ := idxs_sound hi1 hi
    obtain ⟨hlen, hget⟩ := mapO_spec h
    obtain ⟨q, hq⟩ := List.mem_iff_getElem?.1 hmem
    obtain ⟨v, h3, h4⟩ := hget q j hq
    obtain ⟨v', h5, h6⟩ := part_sound hg h1 h2 h4 w
    refine ⟨v, v', List.mem_of_getElem? h3, ?_, h6⟩
    have h5' : (part elem us (j * n)).run P w = .ok v' w := h5
    simp [Instr.index, Sem.run_bind, under_run hu, Result.andThen, asIntOf, hj, sz_run hn, h5']
  · cases h
theorem strB_get (l n i : Nat) (h : i < l) : (strB l n)[i]? = some (UInt8.ofNat (n / 256 ^ i % 256)) := by
  have hs : i < (strB l n).size := by rw [strB_size]; exact h
  rw [ByteArray.getElem?_lt' _ _ hs]
  congr 1
  simp [strB, ByteArray.getElem_eq_getElem_data, strL]
theorem index_str_sound {t : TypeId} (hu : P.underlying t = some .string) {ρ : Rho} {S : AS} {H : AH} {x i : Opd} {vs : List AV} {vx vi : Value} (hx : VR ρ (x S) vx) (hi : VR ρ (i S) vi)
    (h : ixStr x i S H = some vs) (w : World) : ∃ v v', v ∈ vs ∧ (Instr.index t vx vi).run P w = .ok v' w ∧ VR ρ v v' := by
  unfold ixStr at h
  split at h
  · rename_i len n hxe
    obtain ⟨is, hi1, h⟩ := ob_eq_some.1 h
    obtain rfl := Option.some.inj h
    rw [hxe] at hx
    simp only [VR] at hx
    subst hx
    obtain ⟨k, j, rfl, hj, hmem⟩ := idxs_sound hi1 hi
    refine ⟨dig n j, .int .u8 (n / 256 ^ j % 256 : Nat), ?_, ?_, rfl⟩
    · rw [mapL_eq]; exact List.mem_map.2 ⟨j, hmem, rfl⟩
    · have : (UInt8.ofNat (n / 256 ^ j % 256)).toNat = n / 256 ^ j % 256 := by simp
      simp [Instr.index, Sem.run_bind, under_run hu, Result.andThen, asIntOf, strB_get _ _ _ hj]
  · cases h
end Go.Ab
