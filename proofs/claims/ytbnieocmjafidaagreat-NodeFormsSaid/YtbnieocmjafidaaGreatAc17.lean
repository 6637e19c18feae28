/- The abstract machine, 17: appends, copies, clearing. -/
import Derived.Test.YtbnieocmjafidaaGreatAc16
set_option linter.unusedVariables false
set_option linter.unusedSimpArgs false
namespace Go.Ab
variable {P : Program}

theorem digs_sound (ρ : Rho) : ∀ (n k : Nat), VRs ρ (digs k n) ((strL n k).map fun b => Value.int .u8 (b.toNat : Nat)) ∧ ∀ u ∈ ((strL n k).map fun b => Value.int .u8 (b.toNat : Nat)), u.oneCell' = true
  | 0, k => ⟨rfl, by simp [strL]⟩
  | n + 1, k => by
    have e1 : k = (UInt8.ofNat (k % 256)).toNat + 256 * (k / 256) := by simp; omega
    have e2 : strL (n + 1) k = UInt8.ofNat (k % 256) :: strL n (k / 256) := by
      conv => lhs; rw [e1]
      rw [strL_cons]
    obtain ⟨h1, h2⟩ := digs_sound ρ n (k / 256)
    rw [e2]
    constructor
    · refine ⟨_, _, rfl, ?_, h1⟩
      simp only [VR]
      congr 1
      simp
      show (k : Int) % 256 = ((k % 256 : Nat) : Int)
      omega
    · intro u hu
      rcases List.mem_cons.1 hu with rfl | hu
      · rfl
      · exact h2 u hu
theorem strL_extract (l n k : Nat) (h : n ≤ l) : ((strB l k).extract 0 n).data = (strL n k).toArray := by
  rw [strB_extract _ _ _ _ (Nat.zero_le _) h]
  simp only [Nat.sub_zero, Nat.pow_zero, Nat.div_one, strB]
  rw [strL_mod]
/-- The first cells of a slice or a string. -/
theorem firstA_all {size n : Nat} {n0 : Nat} {ρ : Rho} {H : AH} {w : World} (hr : HQ P n0 ρ H w) {x : AV} {vx : Value} (hx : VR ρ x vx) {r : List AV} (h : firstA size n x H = some r) (hn : ∀ m, lenA x = some m → n ≤ m) :
    ∃ vs : List Value, (∀ w' : World, w'.heap = w.heap → (Builtin.firstCells size n vx).run P w' = .ok vs.toArray w') ∧ VRs ρ r vs ∧ (∀ v ∈ vs, v.oneCell' = true) ∧ vs.length = n * size := by
  cases x with
  | slice b off l c op =>
    simp only [VR] at hx
    obtain ⟨lc, cap', hb, rfl, _⟩ := hx
    by_cases h0 : n = 0
    · subst h0
      obtain rfl : [] = r := Option.some.inj h
      refine ⟨[], fun w' _ => ?_, rfl, by simp, by simp⟩
      simp [Builtin.firstCells, loadCells, loadCellsFrom]
    · have h : (bif Nat.beq n 0 then some [] else onBlk (fun cs _ => takeN (dropL cs off) (Nat.mul n size)) none (H.get b)) = some r := h
      rw [nbeq, decide_eq_false h0] at h
      obtain ⟨cs, cl, hget, h⟩ := onBlk_some h
      obtain ⟨vs, h1, h2, h3, h4⟩ := hr.row hb hget h
      refine ⟨vs, fun w' hw' => ?_, h2, h3, h1⟩
      have hld := run_loadCells_list (P := P) w' ⟨lc.c, lc.s + off, none⟩ vs (fun j v hj => by rw [← h4 j v hj]; unfold World.cell?; rw [hw'])
      rw [h1] at hld
      exact hld
  | nilSlice =>
    simp only [VR] at hx
    subst hx
    obtain ⟨h0, h⟩ := cond_some h
    obtain rfl := Option.some.inj h
    rw [nbeq, decide_eq_true_eq] at h0
    subst h0
    exact ⟨[], fun _ _ => rfl, rfl, by simp, by simp⟩
  | emptySlice =>
    simp only [VR] at hx
    obtain ⟨a, cap', rfl⟩ := hx
    obtain ⟨h0, h⟩ := cond_some h
    obtain rfl := Option.some.inj h
    rw [nbeq, decide_eq_true_eq] at h0
    subst h0
    exact ⟨[], fun _ _ => by simp [Builtin.firstCells, loadCells, loadCellsFrom], rfl, by simp, by simp⟩
  | str l k =>
    simp only [VR] at hx
    subst hx
    obtain ⟨h0, h⟩ := cond_some h
    obtain rfl := Option.some.inj h
    simp only [Bool.and_eq_true, nble, nbeq, decide_eq_true_eq] at h0
    obtain ⟨h1, rfl⟩ := h0
    obtain ⟨h2, h3⟩ := digs_sound ρ n k
    refine ⟨_, fun w' _ => ?_, h2, h3, by simp [strL_length]⟩
    simp only [Builtin.firstCells, strL_extract _ _ _ h1, Sem.run_pure]
    simp
  | _ => cases h
theorem firstA_sound {size n : Nat} {n0 : Nat} {ρ : Rho} {H : AH} {w : World} (hr : HQ P n0 ρ H w) {x : AV} {vx : Value} (hx : VR ρ x vx) {r : List AV} (h : firstA size n x H = some r) (hn : ∀ m, lenA x = some m → n ≤ m) :
    ∃ vs : List Value, (Builtin.firstCells size n vx).run P w = .ok vs.toArray w ∧ VRs ρ r vs ∧ (∀ v ∈ vs, v.oneCell' = true) ∧ vs.length = n * size :=
  let ⟨vs, h1, h2⟩ := firstA_all hr hx h hn; ⟨vs, h1 w rfl, h2⟩
theorem lenOf_sound {ρ : Rho} {x : AV} {vx : Value} (hx : VR ρ x vx) {n : Nat} (h : lenA x = some n) (w : World) : (Builtin.lenOf vx).run P w = .ok n w := by
  cases x with
  | slice b off l c op => obtain rfl := Option.some.inj h; simp only [VR] at hx; obtain ⟨_, _, _, rfl, _⟩ := hx; rfl
  | nilSlice => obtain rfl := Option.some.inj h; simp only [VR] at hx; subst hx; rfl
  | emptySlice => obtain rfl := Option.some.inj h; simp only [VR] at hx; obtain ⟨_, _, rfl⟩ := hx; rfl
  | str l k => obtain rfl := Option.some.inj h; simp only [VR] at hx; subst hx; simp [Builtin.lenOf, strB_size]
  | _ => cases h
theorem copy_sound {t elem ty : TypeId} {ts : Array TypeId} {size : Nat} (ht : ts[0]? = some t) (hu : P.underlying t = some (.slice elem)) (hs : sz P elem = some size) {n0 : Nat} {ρ : Rho} {H H' : AH} {w : World} (hr : HR P n0 ρ H w) {S : AS} {d s : Opd} {v : AV} {vd vs : Value} (hd : VR ρ (d S) vd) (hs' : VR ρ (s S) vs)
    (hsl : isSl (d S) = true) (h : copyF size d s S H = some (v, H')) : ActR P n0 ρ H w ((Builtin.copy_ ts ty #[vd, vs]).run P w) v H' := by
  obtain ⟨m, hm, h⟩ := ob_eq_some.1 h
  obtain ⟨n, hn, h⟩ := ob_eq_some.1 h
  obtain ⟨cs, hcs, h⟩ := ob_eq_some.1 h
  obtain ⟨us, h1, h2, h3, h4⟩ := firstA_sound hr.toHQ hs' hcs (fun q hq => by rw [hn] at hq; obtain rfl := Option.some.inj hq; exact Nat.min_le_left _ _)
  have hlen := lenOf_sound (P := P) hs' hn w
  have body : ∀ (base : Option Addr) (cap : Nat), vd = .slice base m cap → (Builtin.copy_ ts ty #[vd, vs]).run P w = (do
      if let some a := base then storeCells a us
      pure (goInt (Nat.min n m)) : Sem Value).run P w := fun base cap e => by
    subst e
    cases base <;> simp [Builtin.copy_, ht, Sem.run_bind, under_run hu, Result.andThen, hlen, sz_run hs, h1]
  split at h
  · rename_i b off l c op hX
    rw [hX] at hd hm
    obtain rfl : l = m := Option.some.inj hm
    simp only [VR] at hd
    obtain ⟨lc, cap', hb, rfl, _⟩ := hd
    rw [body _ _ rfl]
    by_cases h0 : Nat.min n l = 0
    · rw [nbeq, decide_eq_true h0] at h
      simp only [cond_true, Option.some.injEq, Prod.mk.injEq] at h
      obtain ⟨rfl, rfl⟩ := h
      rw [h0] at h4
      have : us = [] := List.eq_nil_of_length_eq_zero (by simpa using h4)
      subst this
      exact ⟨goInt 0, w, ρ, by simp [storeCells, h0], Sim.refl hr, rfl⟩
    · rw [nbeq, decide_eq_false h0] at h
      obtain ⟨H2, hw, h⟩ := ob_eq_some.1 (show ob (H.write b off cs) (fun H => some (AV.int .i64 (Int.ofNat (Nat.min n l)), H)) = some (v, H') from h)
      simp only [Option.some.injEq, Prod.mk.injEq] at h
      obtain ⟨rfl, rfl⟩ := h
      obtain ⟨w', h5, h6⟩ := hr.write (P := P) hb hw h2 h3
      exact ⟨goInt (Nat.min n l), w', ρ, by simp [Sem.run_bind, h5, Result.andThen], h6, rfl⟩
  · rename_i hX
    simp only [Option.some.injEq, Prod.mk.injEq] at h
    obtain ⟨rfl, rfl⟩ := h
    generalize hD : d S = D at *
    cases D with
    | slice b off l c op => exact absurd rfl (hX b off l c op)
    | nilSlice =>
      obtain rfl : 0 = m := Option.some.inj hm
      simp only [VR] at hd
      subst hd
      rw [body _ _ rfl]
      exact ⟨goInt 0, w, ρ, by simp, Sim.refl hr, rfl⟩
    | emptySlice =>
      obtain rfl : 0 = m := Option.some.inj hm
      simp only [VR] at hd
      obtain ⟨a, cap', rfl⟩ := hd
      rw [body _ _ rfl]
      have h0 : Nat.min n 0 = 0 := by simp
      rw [h0] at h4
      have : us = [] := List.eq_nil_of_length_eq_zero (by simpa using h4)
      subst this
      exact ⟨goInt 0, w, ρ, by simp [storeCells], Sim.refl hr, rfl⟩
    | _ => cases hsl
theorem clrM_sound {t ty k e : TypeId} {ts : Array TypeId} (ht : ts[0]? = some t) (hu : P.underlying t = some (.map k e)) {n0 : Nat} {ρ : Rho} {H H' : AH} {w : World} (hr : HR P n0 ρ H w) {S : AS} {x : Opd} {v : AV} {vx : Value} (hx : VR ρ (x S) vx)
    (h : clrM x S H = some (v, H')) : ActR P n0 ρ H w ((Builtin.clear_ ts ty #[vx]).run P w) v H' := by
  unfold clrM at h
  split at h
  · rename_i hX
    rw [hX] at hx
    simp only [VR] at hx
    subst hx
    simp only [Option.some.injEq, Prod.mk.injEq] at h
    obtain ⟨rfl, rfl⟩ := h
    exact ⟨.tuple #[], w, ρ, by simp [Builtin.clear_, ht, Sem.run_bind, under_run hu, Result.andThen], Sim.refl hr, #[], rfl, rfl⟩
  · rename_i r hX
    rw [hX] at hx
    simp only [VR] at hx
    obtain ⟨l, hl, rfl⟩ := hx
    obtain ⟨es, c, hg, h⟩ := onMap_some h
    simp only [Option.some.injEq, Prod.mk.injEq] at h
    obtain ⟨rfl, rfl⟩ := h
    obtain ⟨es', he1, he2⟩ := hr.mapOf hl hg
    refine ⟨.tuple #[], _, ρ, ?_, Sim.put (o' := .map #[] c) hr hl (by rw [hg]; simp) he1 ⟨#[], rfl, rfl⟩, #[], rfl, rfl⟩
    simp [Builtin.clear_, ht, Sem.run_bind, under_run hu, Result.andThen, run_getObj_map he1, run_setObj_map _ he1]
  · cases h
theorem clrS_sound {t ty elem : TypeId} {ts : Array TypeId} {zs : List AV} (ht : ts[0]? = some t) (hu : P.underlying t = some (.slice elem)) (hz : zeros P elem = some zs) {n0 : Nat} {ρ : Rho} {H H' : AH} {w : World} (hr : HR P n0 ρ H w) {S : AS} {x : Opd} {v : AV} {vx : Value} (hx : VR ρ (x S) vx)
    (h : clrS zs x S H = some (v, H')) : ActR P n0 ρ H w ((Builtin.clear_ ts ty #[vx]).run P w) v H' := by
  unfold clrS at h
  split at h
  · rename_i hX
    rw [hX] at hx
    simp only [VR] at hx
    subst hx
    simp only [Option.some.injEq, Prod.mk.injEq] at h
    obtain ⟨rfl, rfl⟩ := h
    exact ⟨.tuple #[], w, ρ, by simp [Builtin.clear_, ht, Sem.run_bind, under_run hu, Result.andThen], Sim.refl hr, #[], rfl, rfl⟩
  · rename_i hX
    rw [hX] at hx
    simp only [VR] at hx
    obtain ⟨a, cap', rfl⟩ := hx
    simp only [Option.some.injEq, Prod.mk.injEq] at h
    obtain ⟨rfl, rfl⟩ := h
    exact ⟨.tuple #[], w, ρ, by simp [Builtin.clear_, ht, Sem.run_bind, under_run hu, Result.andThen], Sim.refl hr, #[], rfl, rfl⟩
  · rename_i b off n c op hX
    rw [hX] at hx
    simp only [VR] at hx
    obtain ⟨lc, cap', hb, rfl, _⟩ := hx
    by_cases h0 : n = 0
    · rw [nbeq, decide_eq_true h0] at h
      simp only [cond_true, Option.some.injEq, Prod.mk.injEq] at h
      obtain ⟨rfl, rfl⟩ := h
      subst h0
      exact ⟨.tuple #[], w, ρ, by simp [Builtin.clear_, ht, Sem.run_bind, under_run hu, Result.andThen], Sim.refl hr, #[], rfl, rfl⟩
    · rw [nbeq, decide_eq_false h0] at h
      obtain ⟨H2, hw, h⟩ := ob_eq_some.1 (show ob (H.write b off (repl zs n)) (fun H => some (AV.tuple [], H)) = some (v, H') from h)
      simp only [Option.some.injEq, Prod.mk.injEq] at h
      obtain ⟨rfl, rfl⟩ := h
      obtain ⟨z, m, hz1, hz2, hz3, hz4, hz5, hz6⟩ := zeros_run hz w
      obtain ⟨hr1, hr2⟩ := repl_sound (hz5 ρ) hz6 n
      obtain ⟨w', h5, h6⟩ := hr.write (P := P) hb hw hr1 hr2
      obtain ⟨n', rfl⟩ : ∃ n', n = n' + 1 := ⟨n - 1, by omega⟩
      refine ⟨.tuple #[], w', ρ, ?_, h6, #[], rfl, rfl⟩
      have h5' : (storeCells ⟨lc.c, lc.s + off, none⟩ (Builtin.zeroCells z.cells (n' + 1)).toList).run P w = .ok () w' := h5
      simp only [Builtin.clear_, ht, Sem.run_bind, under_run hu, Result.andThen, hz1, h5', Sem.run_pure, List.getElem?_toArray, List.getElem?_cons_zero]
  · cases h
theorem unclean_sound {s e : TypeId} (hs : P.underlying s = some (.slice e)) (he : P.underlying e = some (.int .u8)) {n0 : Nat} {ρ : Rho} {H H' : AH} {w : World} (hr : HR P n0 ρ H w) {S : AS} {x : Opd} {v : AV} {vx : Value} (hx : VR ρ (x S) vx)
    (h : unclean x S H = some (v, H')) : ActR P n0 ρ H w ((convert s s vx).run P w) v H' := by
  unfold unclean at h
  split at h
  · rename_i b off l c op hX
    rw [hX] at hx
    obtain ⟨cs, cl, hg, h⟩ := onBlk_some h
    simp only [Option.some.injEq, Prod.mk.injEq] at h
    obtain ⟨rfl, rfl⟩ := h
    have hx0 := hx
    simp only [VR] at hx
    obtain ⟨lc, cap', hb, rfl, _⟩ := hx
    obtain ⟨arr, el, fz, hw, hn, hrow, hf, hcl⟩ := hr.cellsOf hb hg
    have hlt : lc.c < w.heap.size := (Array.getElem?_eq_some_iff.1 hw).1
    have hval : w.heap[lc.c] = .cells arr el fz := (Array.getElem?_eq_some_iff.1 hw).2
    refine ⟨.slice (some ⟨lc.c, lc.s + off, none⟩) l cap', w.freeze ⟨lc.c, arr.size, none⟩ 1, ρ, ?_, Sim.turn (o := .cells arr el (if fz.1 == fz.2 then (arr.size, arr.size + 1) else (min fz.1 arr.size, max fz.2 (arr.size + 1)))) hr hb (by rw [hg]; simp) ?_ ?_ ?_ rfl rfl rfl ⟨arr, el, _, rfl, hn, hrow, ?_, fun h => by cases h⟩, hx0⟩
    · have hsh : (shape lc.c).run P w = .ok (some (el, arr.size)) w := by simp [shape, Sem.run, World.shape?, hw]
      have hfr : (freeze ⟨lc.c, arr.size, none⟩ 1).run P w = .ok () (w.freeze ⟨lc.c, arr.size, none⟩ 1) := rfl
      unfold convert
      simp only [Sem.run_bind, under_run hs, under_run he, Result.andThen, beq_self_eq_true, markStringish, hsh, hfr, Sem.run_pure]
    · simp [World.freeze, Array.getElem?_modify, hw]
    · simp [World.freeze]
    · intro k hk
      simp [World.freeze, Array.getElem?_modify, Ne.symm hk]
    · by_cases h0 : fz.1 = fz.2
      · simp [h0]
      · right
        have : (fz.1 == fz.2) = false := by simpa using h0
        rw [this]
        simp only [Bool.false_eq_true, if_false]
        omega
  · cases h
end Go.Ab
