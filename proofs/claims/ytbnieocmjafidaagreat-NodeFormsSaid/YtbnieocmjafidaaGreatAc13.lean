/- The abstract machine, 13: conversions, maps that are read, lengths. -/
import Derived.Test.YtbnieocmjafidaaGreatAc12
set_option linter.unusedVariables false
set_option linter.unusedSimpArgs false
namespace Go.Ab
variable {P : Program}

theorem un_sound {op : UnOp} {f : AV → Option AV} (hf : (op = .neg ∧ f = negV) ∨ (op = .not ∧ f = notV) ∨ (op = .xor ∧ f = cplV)) {ρ : Rho} {x v : AV} {vx : Value} (hx : VR ρ x vx) (h : f x = some v) (w : World) :
    ∃ v', (Op.unary op vx).run P w = .ok v' w ∧ VR ρ v v' := by
  rcases hf with ⟨rfl, rfl⟩ | ⟨rfl, rfl⟩ | ⟨rfl, rfl⟩
  · unfold negV at h
    split at h
    · rename_i k n
      obtain rfl := Option.some.inj h
      simp only [VR] at hx
      subst hx
      exact ⟨_, by simp only [Op.unary, Op.intArith]; rfl, by rw [wrapF_eq, subI_eq]; rfl⟩
    · rename_i k a b
      obtain ⟨hc, h⟩ := cond_some h
      obtain rfl := Option.some.inj h
      simp only [Bool.and_eq_true] at hc
      obtain ⟨n, rfl, h1, h2⟩ := hx
      have e := inKind_wrap (k := k) (n := 0 - n) (by have := (inKind_iff hc.1).1; omega) (by have := (inKind_iff hc.2).2; omega)
      exact ⟨.int k (0 - n), by simp only [Op.unary, Op.intArith, e]; rfl, 0 - n, rfl, by omega, by omega⟩
    · cases h
  · unfold notV at h
    split at h
    · rename_i b
      obtain rfl := Option.some.inj h
      simp only [VR] at hx
      subst hx
      exact ⟨.bool (!b), rfl, by cases b <;> rfl⟩
    · obtain rfl := Option.some.inj h
      obtain ⟨b, rfl⟩ := hx
      exact ⟨.bool (!b), rfl, _, rfl⟩
    · cases h
  · unfold cplV at h
    split at h
    · rename_i k n
      obtain rfl := Option.some.inj h
      simp only [VR] at hx
      subst hx
      exact ⟨.int k (xorG k (if k.signed then -1 else k.max) n), rfl, rfl⟩
    · cases h
theorem wrap_min_max (k : IntKind) (n : Int) : k.min ≤ k.wrap n ∧ k.wrap n ≤ k.max := by
  cases k <;> simp only [IntKind.min, IntKind.max, IntKind.wrap, IntKind.signed, IntKind.bits] <;> simp <;> (try split) <;> omega
theorem toInt_sound {s d : TypeId} {us : TypeDesc} {k : IntKind} (hs : P.underlying s = some us) (hd : P.underlying d = some (.int k)) {ρ : Rho} {x v : AV} {vx : Value} (hx : VR ρ x vx) (h : toInt k x = some v) (w : World) :
    ∃ v', (convert s d vx).run P w = .ok v' w ∧ VR ρ v v' := by
  have run : ∀ j n, (convert s d (.int j n)).run P w = .ok (.int k (k.wrap n)) w := fun j n => by
    unfold convert
    simp only [Sem.run_bind, under_run hs, under_run hd, Result.andThen]
    cases us <;> rfl
  unfold toInt at h
  split at h
  · obtain rfl := Option.some.inj h
    simp only [VR] at hx
    subst hx
    exact ⟨_, run _ _, by rw [wrapF_eq]; rfl⟩
  · rename_i j a b
    obtain ⟨n, rfl, h1, h2⟩ := hx
    refine ⟨_, run _ _, ?_⟩
    cases hc : inKind k a && inKind k b with
    | true =>
      rw [hc] at h
      obtain rfl := Option.some.inj h
      simp only [Bool.and_eq_true] at hc
      have e := inKind_wrap (k := k) (n := n) (by have := (inKind_iff hc.1).1; omega) (by have := (inKind_iff hc.2).2; omega)
      rw [e]
      exact ⟨n, rfl, h1, h2⟩
    | false =>
      rw [hc] at h
      obtain rfl := Option.some.inj h
      exact ⟨_, rfl, wrap_min_max k n⟩
  · cases h

/-! ### Bytes to strings -/
theorem byteV_sound {c : AV} {b : Nat} (h : byteV c = some b) : c = .int .u8 (Int.ofNat b) ∧ b < 256 := by
  unfold byteV at h
  split at h
  · obtain ⟨h1, h2⟩ := cond_some h
    clear h
    obtain rfl := Option.some.inj h2
    rw [nblt, decide_eq_true_eq] at h1
    exact ⟨rfl, h1⟩
  · cases h
theorem bytesOf_sound {ρ : Rho} : ∀ {cs : List AV} {vs : List Value} {k : Nat}, bytesOf cs = some k → VRs ρ cs vs → ∃ bs : List Nat, vs = bs.map (fun b => Value.int .u8 (Int.ofNat b)) ∧ strL cs.length k = bs.map UInt8.ofNat
  | [], vs, k, h, hv => by
    have h : some 0 = some k := h
    obtain rfl := Option.some.inj h
    simp only [VRs] at hv
    subst hv
    exact ⟨[], rfl, rfl⟩
  | c :: cs, vs, k, h, hv => by
    simp only [VRs] at hv
    obtain ⟨v, vs', rfl, h1, h2⟩ := hv
    have h : ob (byteV c) (fun b => ob (bytesOf cs) fun n => some (Nat.add b (Nat.mul 256 n))) = some k := h
    obtain ⟨b, hb, h⟩ := ob_eq_some.1 h
    obtain ⟨n, hn, h⟩ := ob_eq_some.1 h
    obtain rfl := Option.some.inj h
    obtain ⟨bs, rfl, h4⟩ := bytesOf_sound hn h2
    obtain ⟨rfl, hlt⟩ := byteV_sound hb
    simp only [VR] at h1
    subst h1
    refine ⟨b :: bs, rfl, ?_⟩
    have e : b = (UInt8.ofNat b).toNat := by simp; omega
    show strL (cs.length + 1) (b + 256 * n) = _
    rw [e, strL_cons, h4]
    simp
    rw [Nat.mod_eq_of_lt hlt]
theorem foldl_push (ns : List Nat) : ∀ (s : ByteArray), ((ns.map Int.ofNat).foldl (fun r n => r.push (UInt8.ofNat n.toNat)) s).data.toList = s.data.toList ++ ns.map UInt8.ofNat := by
  induction ns with
  | nil => intro s; simp
  | cons n ns ih => intro s; simp only [List.map_cons, List.foldl_cons]; rw [ih]; simp [ByteArray.push]
theorem toStr_sound {s d e : TypeId} (hs : P.underlying s = some (.slice e)) (he : P.underlying e = some (.int .u8)) (hd : P.underlying d = some .string) {n0 : Nat} {ρ : Rho} {H : AH} {w : World} (hr : HQ P n0 ρ H w) {S : AS} {x : Opd} {v : AV} {vx : Value} (hx : VR ρ (x S) vx) (h : toStr x S H = some v) :
    ∃ v', (convert s d vx).run P w = .ok v' w ∧ VR ρ v v' := by
  obtain ⟨hsl, h⟩ := cnd_some h
  obtain ⟨n, hn, h⟩ := ob_eq_some.1 h
  obtain ⟨cs, hcs, h⟩ := ob_eq_some.1 h
  obtain ⟨k, hk, h⟩ := ob_eq_some.1 h
  obtain rfl := Option.some.inj h
  have empty : cs = [] → n = 0 → VR ρ (.str n k) (.string ByteArray.empty) := fun h1 h2 => by
    subst h1 h2
    simp only [VR, strB, strL]
    rfl
  generalize hX : x S = X at *
  cases X with
  | slice b off l c op =>
    simp only [lenA, Option.some.injEq] at hn
    subst hn
    simp only [VR] at hx
    obtain ⟨lc, cap', hb, rfl, _⟩ := hx
    rw [run_convert_bytes_string w s d e _ _ _ hs he hd]
    by_cases h0 : l = 0
    · subst h0
      obtain rfl : [] = cs := Option.some.inj hcs
      refine ⟨_, run_bytesToString w _ 0 _ [] ?_, ?_⟩
      · simp [loadCells, loadCellsFrom]
      · exact empty rfl rfl
    · have hcs : (bif Nat.beq l 0 then some [] else onBlk (fun cs _ => takeN (dropL cs off) (Nat.mul l 1)) none (H.get b)) = some cs := hcs
      rw [nbeq, decide_eq_false h0] at hcs
      obtain ⟨cs', cl, hget, hcs⟩ := onBlk_some hcs
      obtain ⟨vs, h1, h2, h3, h4⟩ := hr.row hb hget hcs
      obtain ⟨bs, rfl, h5⟩ := bytesOf_sound hk h2
      have hld := run_loadCells_list (P := P) w ⟨lc.c, lc.s + off, none⟩ _ h4
      have hlen : bs.length = l := by simpa using h1
      refine ⟨_, run_bytesToString w _ l _ (bs.map Int.ofNat) ?_, ?_⟩
      · rw [List.length_map, hlen] at hld
        rw [hld]; simp
      · simp only [VR]
        congr 1
        apply ByteArray.ext
        apply Array.toList_inj.1
        rw [foldl_push]
        have hcl : cs.length = l := by have := VRs_length h2; simp at this; omega
        rw [hcl] at h5
        simp [strB, h5]
  | nilSlice =>
    obtain rfl : 0 = n := Option.some.inj hn
    obtain rfl : [] = cs := Option.some.inj hcs
    simp only [VR] at hx
    subst hx
    rw [run_convert_bytes_string w s d e _ _ _ hs he hd]
    exact ⟨.string .empty, rfl, empty rfl rfl⟩
  | emptySlice =>
    obtain rfl : 0 = n := Option.some.inj hn
    obtain rfl : [] = cs := Option.some.inj hcs
    simp only [VR] at hx
    obtain ⟨a, cap', rfl⟩ := hx
    rw [run_convert_bytes_string w s d e _ _ _ hs he hd]
    refine ⟨_, run_bytesToString w _ 0 _ [] ?_, ?_⟩
    · simp [loadCells, loadCellsFrom]
    · exact empty rfl rfl
  | _ => cases hsl

/-! ### Lengths, the greatest and the least -/
theorem EntsR_length {ρ : Rho} : ∀ {es : Ents} {l : List MapEntry}, EntsR ρ es l → l.length = es.length
  | [], l, h => by simp only [EntsR] at h; subst h; rfl
  | e :: es, l, h => by simp only [EntsR] at h; obtain ⟨x, l', rfl, _, h⟩ := h; simp [EntsR_length h]
/-- A map that is related. -/
theorem HQ.mapOf {n0 : Nat} {ρ : Rho} {H : AH} {w : World} (hr : HQ P n0 ρ H w) {b : Pa} {l : Loc} {es : Ents} {c : Nat} (hb : ρ b = some l) (hx : H.get b = some (.map es c)) :
    ∃ es' : Array MapEntry, w.heap[l.c]? = some (.map es' c) ∧ EntsR ρ es es'.toList := by
  obtain ⟨_, o, h2, h3⟩ := hr.blk b l hb
  obtain ⟨es', rfl, h4⟩ := h3 _ hx
  exact ⟨es', h2, h4⟩
theorem run_getObj_map {w : World} {r : Nat} {es : Array MapEntry} {c : Nat} (h : w.heap[r]? = some (.map es c)) : (getObj r).run P w = .ok (.map es c) w := by simp [getObj, Sem.run, h]
theorem len_sound {t ty : TypeId} {ts : Array TypeId} (ht : ts[0]? = some t) {d : TypeDesc} (hu : P.underlying t = some d) (hd : d = .string ∨ (∃ e, d = .slice e) ∨ ∃ k e, d = .map k e) {n0 : Nat} {ρ : Rho} {H : AH} {w : World} (hr : HQ P n0 ρ H w) {S : AS} {x : Opd} {v : AV} {vx : Value} (hx : VR ρ (x S) vx)
    (hk : (d = .string → isStr (x S) = true) ∧ ((∃ e, d = .slice e) → isSl (x S) = true) ∧ ((∃ k e, d = .map k e) → isMp (x S) = true)) (h : lenF x S H = some v) : ∃ v', (Builtin.len_ ts ty #[vx]).run P w = .ok v' w ∧ VR ρ v v' := by
  unfold lenF at h
  split at h
  · rename_i r hX
    obtain ⟨es, c, hg, h⟩ := onMap_some h
    obtain rfl := Option.some.inj h
    rw [hX] at hx hk
    obtain ⟨l, hl, rfl⟩ := hx
    obtain ⟨es', h1, h2⟩ := hr.mapOf hl hg
    have hlen := EntsR_length h2
    rcases hd with rfl | ⟨e, rfl⟩ | ⟨k, e, rfl⟩
    · exact absurd (hk.1 rfl) (by simp [isStr])
    · exact absurd (hk.2.1 ⟨_, rfl⟩) (by simp [isSl])
    · refine ⟨goInt es'.size, ?_, ?_⟩
      · simp [Builtin.len_, ht, Sem.run_bind, under_run hu, Result.andThen, run_getObj_map h1]
      · rw [lenL_eq, ← hlen]; simp [VR, goInt]
  · rename_i hX
    obtain rfl := Option.some.inj h
    rw [hX] at hx hk
    simp only [VR] at hx
    subst hx
    rcases hd with rfl | ⟨e, rfl⟩ | ⟨k, e, rfl⟩
    · exact absurd (hk.1 rfl) (by simp [isStr])
    · exact absurd (hk.2.1 ⟨_, rfl⟩) (by simp [isSl])
    · exact ⟨goInt 0, by simp [Builtin.len_, ht, Sem.run_bind, under_run hu, Result.andThen], rfl⟩
  · obtain ⟨n, hn, h⟩ := ob_eq_some.1 h
    obtain rfl := Option.some.inj h
    generalize x S = X at *
    rcases hd with rfl | ⟨e, rfl⟩ | ⟨k, e, rfl⟩
    · have h1 := hk.1 rfl
      cases X with
      | str l m =>
        obtain rfl : l = n := Option.some.inj hn
        simp only [VR] at hx
        subst hx
        exact ⟨goInt l, by simp [Builtin.len_, ht, Sem.run_bind, under_run hu, Result.andThen, strB_size], rfl⟩
      | _ => cases h1
    · have h1 := hk.2.1 ⟨_, rfl⟩
      cases X with
      | slice b off l c op =>
        obtain rfl : l = n := Option.some.inj hn
        simp only [VR] at hx
        obtain ⟨_, _, _, rfl, _⟩ := hx
        exact ⟨goInt l, by simp [Builtin.len_, ht, Sem.run_bind, under_run hu, Result.andThen], rfl⟩
      | nilSlice =>
        obtain rfl : 0 = n := Option.some.inj hn
        simp only [VR] at hx
        subst hx
        exact ⟨goInt 0, by simp [Builtin.len_, ht, Sem.run_bind, under_run hu, Result.andThen], rfl⟩
      | emptySlice =>
        obtain rfl : 0 = n := Option.some.inj hn
        simp only [VR] at hx
        obtain ⟨_, _, rfl⟩ := hx
        exact ⟨goInt 0, by simp [Builtin.len_, ht, Sem.run_bind, under_run hu, Result.andThen], rfl⟩
      | _ => cases h1
    · have h1 := hk.2.2 ⟨_, _, rfl⟩
      cases X with
      | map r => cases hn
      | nilMap => cases hn
      | _ => cases h1
end Go.Ab
