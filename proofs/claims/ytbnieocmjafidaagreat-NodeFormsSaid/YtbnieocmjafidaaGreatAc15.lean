/- The abstract machine, 15: what is stored; entries of maps that are turned. -/
import Derived.Test.YtbnieocmjafidaaGreatAc14
set_option linter.unusedVariables false
set_option linter.unusedSimpArgs false
namespace Go.Ab
variable {P : Program}

/-- What acts: the value, the world behind it. -/
def ActR (P : Program) (n0 : Nat) (ρ : Rho) (H : AH) (w : World) (r : Result Value) (v : AV) (H' : AH) : Prop := ∃ v' w' ρ', r = .ok v' w' ∧ Sim P n0 ρ H w ρ' H' w' ∧ VR ρ' v v'

theorem store_sound {t : TypeId} {n : Nat} (hn : sz P t = some n) {n0 : Nat} {ρ : Rho} {H H' : AH} {w : World} (hr : HR P n0 ρ H w) {b : Pa} {off : Nat} {l : Loc} (hb : ρ b = some l) {as : List AV} {vx : Value} (hv : VRs ρ as vx.cells.toList) (h1 : ∀ u ∈ vx.cells.toList, u.oneCell' = true) (hlen : as.length = n)
    (h : H.write b off as = some H') : ∃ w', (Instr.storeAt t (.pointer (some ⟨l.c, l.s + off, none⟩)) vx).run P w = .ok () w' ∧ Sim P n0 ρ H w ρ H' w' := by
  obtain ⟨w', h2, h3⟩ := hr.write (P := P) hb h hv h1
  have hsz : vx.cells.size = n := by have := VRs_length hv; simp at this; omega
  exact ⟨w', by simp [Instr.storeAt, Instr.sureAddr, storeVar, Sem.run_bind, sz_run hn, Result.andThen, hsz, h2], h3⟩
theorem stSF_sound {t : TypeId} (hn : sz P t = some 1) {n0 : Nat} {ρ : Rho} {H H' : AH} {w : World} (hr : HR P n0 ρ H w) {S : AS} {x y : Opd} {v : AV} {vx vy : Value} (hx : VR ρ (x S) vx) (hy : VR ρ (y S) vy) (h : stSF x y S H = some (v, H')) :
    ∃ w', (Instr.storeAt t vx vy).run P w = .ok () w' ∧ Sim P n0 ρ H w ρ H' w' ∧ v = undefA := by
  obtain ⟨hs, h⟩ := cnd_some h
  obtain ⟨b, off, hX, h⟩ := onPtr_some h
  obtain ⟨H2, hw, h⟩ := ob_eq_some.1 h
  simp only [Option.some.injEq, Prod.mk.injEq] at h
  obtain ⟨rfl, rfl⟩ := h
  rw [hX] at hx
  simp only [VR] at hx
  obtain ⟨l, hl, rfl⟩ := hx
  have hc : (y S).cells = some [y S] := by
    revert hs
    cases y S <;> intro hs <;> first | rfl | (cases hs; done)
  obtain ⟨h1, h2⟩ := hy.cells hc
  obtain ⟨w', h3, h4⟩ := store_sound hn hr hl h1 h2 rfl hw
  exact ⟨w', h3, h4, rfl⟩
theorem stAF_sound {t : TypeId} {n : Nat} (hn : sz P t = some n) {n0 : Nat} {ρ : Rho} {H H' : AH} {w : World} (hr : HR P n0 ρ H w) {S : AS} {x y : Opd} {v : AV} {vx vy : Value} (hx : VR ρ (x S) vx) (hy : VR ρ (y S) vy) (h : stAF n x y S H = some (v, H')) :
    ∃ w', (Instr.storeAt t vx vy).run P w = .ok () w' ∧ Sim P n0 ρ H w ρ H' w' ∧ v = undefA := by
  unfold stAF at h
  split at h
  · rename_i cs hY
    obtain ⟨hlen, h⟩ := cond_some h
    obtain ⟨b, off, hX, h⟩ := onPtr_some h
    obtain ⟨H2, hw, h⟩ := ob_eq_some.1 h
    simp only [Option.some.injEq, Prod.mk.injEq] at h
    obtain ⟨rfl, rfl⟩ := h
    rw [hX] at hx
    rw [hY] at hy
    simp only [VR] at hx
    obtain ⟨l, hl, rfl⟩ := hx
    rw [lenL_eq, nbeq, decide_eq_true_eq] at hlen
    obtain ⟨h1, h2⟩ := hy.cells (as := cs) rfl
    obtain ⟨w', h3, h4⟩ := store_sound hn hr hl h1 h2 hlen hw
    exact ⟨w', h3, h4, rfl⟩
  · cases h

/-! ### Maps -/
theorem EntsR_get {ρ : Rho} : ∀ {es : Ents} {l : List MapEntry}, EntsR ρ es l → ∀ (i : Nat) e, es[i]? = some e → ∃ x, l[i]? = some x ∧ EntR ρ e x
  | [], l, h, i, e, hi => by simp at hi
  | a :: es, l, h, i, e, hi => by
    simp only [EntsR] at h
    obtain ⟨x, l', rfl, h1, h2⟩ := h
    cases i with
    | zero => simp only [List.getElem?_cons_zero, Option.some.injEq] at hi; subst hi; exact ⟨x, by simp, h1⟩
    | succ i => simpa using EntsR_get h2 i e (by simpa using hi)
theorem EntsR_append {ρ : Rho} : ∀ {es fs : Ents} {l m : List MapEntry}, EntsR ρ es l → EntsR ρ fs m → EntsR ρ (es ++ fs) (l ++ m)
  | [], fs, l, m, h, k => by simp only [EntsR] at h; subst h; simpa using k
  | a :: es, fs, l, m, h, k => by
    simp only [EntsR] at h
    obtain ⟨x, l', rfl, h1, h2⟩ := h
    exact ⟨x, l' ++ m, rfl, h1, EntsR_append h2 k⟩
theorem updL_sound {ρ : Rho} {k v : AV} {vk vv : Value} (hk : VR ρ k vk) (hv : VR ρ v vv) : ∀ {es : Ents} {l : List MapEntry} (i : Nat), EntsR ρ es l → EntsR ρ (updL es k v i) (l.modify i fun e => { e with key := vk, val := vv })
  | [], l, i, h => by simp only [EntsR] at h; subst h; cases i <;> rfl
  | a :: es, l, i, h => by
    simp only [EntsR] at h
    obtain ⟨x, l', rfl, ⟨h1, h2, h3⟩, h4⟩ := h
    cases i with
    | zero => exact ⟨{ x with key := vk, val := vv }, l', by simp [List.modify], ⟨hk, hv, h3⟩, h4⟩
    | succ i => exact ⟨x, l'.modify i fun e => { e with key := vk, val := vv }, by simp [List.modify], ⟨h1, h2, h3⟩, updL_sound hk hv i h4⟩
theorem delL_sound {ρ : Rho} : ∀ {es : Ents} {l : List MapEntry} (i : Nat), EntsR ρ es l → EntsR ρ (delL es i) (l.eraseIdx i)
  | [], l, i, h => by simp only [EntsR] at h; subst h; cases i <;> rfl
  | a :: es, l, i, h => by
    simp only [EntsR] at h
    obtain ⟨x, l', rfl, h1, h4⟩ := h
    cases i with
    | zero => exact h4
    | succ i => exact ⟨_, _, rfl, h1, delL_sound i h4⟩
theorem run_setObj_map {w : World} {r : Nat} {es : Array MapEntry} {c : Nat} (o : Obj) (h : w.heap[r]? = some (.map es c)) : (setObj r o).run P w = .ok () (w.putObj r o) := by simp [setObj, Sem.run, h, World.putObj]
theorem Sim.put {n0 : Nat} {ρ : Rho} {H : AH} {w : World} (hr : HR P n0 ρ H w) {b : Pa} {l : Loc} {x : AB} {o o' : Obj} (hb : ρ b = some l) (hd : H.get b ≠ some .dead) (ho : w.heap[l.c]? = some o) (hbr : BR P ρ x l o') : Sim P n0 ρ H w ρ (H.set b x) (w.putObj l.c o') :=
  Sim.turn hr hb hd (World.putObj_heap_same (Array.getElem?_eq_some_iff.1 ho).1) (by simp) (fun k hk => World.putObj_heap_other hk) rfl rfl rfl hbr
/-- A block laid again as it was. -/
theorem Sim.turn' {n0 : Nat} {ρ : Rho} {H : AH} {w : World} (hr : HR P n0 ρ H w) {b : Pa} {l : Loc} {x : AB} {o : Obj} (hb : ρ b = some l) (hd : H.get b ≠ some .dead) (ho : w.heap[l.c]? = some o) (hx : H.get b = some x) (hbr : BR P ρ x l o) : Sim P n0 ρ H w ρ H (w.putObj l.c o) := by
  have hsame : ∀ k, (w.putObj l.c o).heap[k]? = w.heap[k]? := fun k => by
    by_cases e : k = l.c
    · subst e; rw [World.putObj_heap_same (Array.getElem?_eq_some_iff.1 ho).1, ho]
    · exact World.putObj_heap_other e
  exact ⟨Rho.le_refl _, ⟨⟨hr.inj, fun b l hb => let ⟨h1, o', h3, h4⟩ := hr.blk b l hb; ⟨h1, o', by rw [hsame]; exact h3, h4⟩⟩, hr.fresh, hr.top⟩, Nat.le_refl _, fun _ _ h => ⟨h, rfl⟩, fun c _ _ => hsame c, fun b l h => .inr ⟨b, l, h, rfl⟩, by simp, rfl, rfl, rfl⟩
theorem sameBits_refl : ∀ (d : Nat) (a : AV) (c : Value), bitsS a = true → concS a = some c → Instr.sameBits (d + 1) c c = true := fun d a c hb hc => by
  cases a <;> first | (cases hb; done) | skip
  all_goals obtain rfl := Option.some.inj hc
  all_goals simp only [Instr.sameBits]
  · simp
  · simp
  · exact (bytes_beq' _ _).2 rfl
theorem sameBits_agg (d : Nat) : ∀ (cs : List AV) (vs : List Value), allL bitsS cs = true → mapO concS cs = some vs → ∀ v ∈ vs, Instr.sameBits (d + 1) v v = true
  | [], vs, _, h => by obtain rfl : [] = vs := Option.some.inj h; simp
  | c :: cs, vs, hb, h => by
    have h : ob (concS c) (fun b => ob (mapO concS cs) fun bs => some (b :: bs)) = some vs := h
    obtain ⟨b, h1, h⟩ := ob_eq_some.1 h
    obtain ⟨bs, h2, h⟩ := ob_eq_some.1 h
    obtain rfl := Option.some.inj h
    rw [allL_eq] at hb
    simp only [List.all_cons, Bool.and_eq_true] at hb
    intro v hv
    rcases List.mem_cons.1 hv with rfl | hv
    · exact sameBits_refl d c _ hb.1 h1
    · exact sameBits_agg d cs bs (by rw [allL_eq]; exact hb.2) h2 v hv
theorem sameBits_conc {a : AV} {c : Value} (hb : bitsOk a = true) (hc : conc a = some c) : Instr.sameBits 10000 c c = true := by
  cases a <;> first | (cases hb; done) | skip
  case agg cs =>
    obtain ⟨vs, h1, h⟩ := ob_eq_some.1 (show ob (mapO concS cs) (fun vs => some (Value.agg vs.toArray)) = some c from hc)
    obtain rfl := Option.some.inj h
    have := sameBits_agg 9998 cs vs hb h1
    show Instr.sameBits (9999 + 1) _ _ = true
    simp only [Instr.sameBits]
    simp only [beq_self_eq_true, Bool.true_and, List.all_eq_true]
    intro p hp
    have h2 : p.1 = p.2 ∧ p.1 ∈ vs := by
      rw [List.mem_iff_getElem?] at hp
      obtain ⟨i, hi⟩ := hp
      rw [List.getElem?_zip_eq_some] at hi
      refine ⟨by have := hi.1.symm.trans hi.2; simpa using this, List.mem_of_getElem? hi.1⟩
    obtain ⟨p1, p2⟩ := p
    simp only at h2
    obtain ⟨rfl, h2⟩ := h2
    exact this _ h2
  case bool b => exact sameBits_refl 9999 (.bool b) c hb hc
  case int k n => exact sameBits_refl 9999 (.int k n) c hb hc
  case str l n => exact sameBits_refl 9999 (.str l n) c hb hc
theorem upd_sound {t key elem : TypeId} (hu : P.underlying t = some (.map key elem)) {K : KeyF} (hK : keyF P key = some K) {n0 : Nat} {ρ : Rho} {H H' : AH} {w : World} (hr : HR P n0 ρ H w) {S : AS} {m k x : Opd} {v : AV} {vm vk vx : Value} (hm : VR ρ (m S) vm) (hk : VR ρ (k S) vk) (hx : VR ρ (x S) vx)
    (h : updF K m k x S H = some (v, H')) : ∃ w', (Instr.mapUpdate t vm vk vx).run P w = .ok () w' ∧ Sim P n0 ρ H w ρ H' w' ∧ v = undefA := by
  have hok := keyF_ok hK
  obtain ⟨d, hud, _⟩ := ob_eq_some.1 hK
  unfold updF at h
  split at h
  · rename_i r hX
    rw [hX] at hm
    simp only [VR] at hm
    obtain ⟨l, hl, rfl⟩ := hm
    obtain ⟨es, c, hg, h⟩ := onMap_some h
    obtain ⟨hsc, h⟩ := cnd_some h
    obtain ⟨h1, h⟩ := cnd_some h
    obtain ⟨q, hq, h⟩ := ob_eq_some.1 h
    obtain ⟨es', he1, he2⟩ := hr.mapOf hl hg
    obtain ⟨r', h3, h4⟩ := hok.find w 0 hk he2 hq
    rw [← findKey_run hud] at h3
    have hlive : H.get r ≠ some .dead := by rw [hg]; simp
    cases q with
    | none => cases r' with
      | some r' => exact h4.elim
      | none =>
        simp only [Option.some.injEq, Prod.mk.injEq] at h
        obtain ⟨rfl, rfl⟩ := h
        refine ⟨_, ?_, Sim.put (o' := .map (es'.push { key := vk, val := vx, born := c }) (c + 1)) hr hl hlive he1 ⟨_, rfl, ?_⟩, rfl⟩
        · simp [Instr.mapUpdate, Sem.run_bind, under_run hu, Result.andThen, run_getObj_map he1, hok.ok w h1 hk, h3, run_setObj_map _ he1]
        · rw [catL_eq, Array.toList_push]
          exact EntsR_append he2 ⟨_, _, rfl, ⟨hk, hx, rfl⟩, rfl⟩
    | some q => cases r' with
      | none => exact h4.elim
      | some r' =>
        obtain ⟨j, u⟩ := q
        obtain ⟨j', u'⟩ := r'
        obtain ⟨rfl, _, _, hj⟩ := h4
        obtain ⟨e, he, h⟩ := ob_eq_some.1 h
        obtain ⟨hbeq, h⟩ := cnd_some h
        obtain ⟨cv, hcv, h⟩ := ob_eq_some.1 h
        obtain ⟨hbits, h⟩ := cnd_some h
        simp only [Option.some.injEq, Prod.mk.injEq] at h
        obtain ⟨rfl, rfl⟩ := h
        rw [nthL_eq] at he
        obtain ⟨y, hy1, hy2, hy3, hy4⟩ := EntsR_get he2 _ _ he
        have hkey : y.key = vk := by
          rw [AV.beq_eq _ _ hbeq] at hy2
          rw [conc_sound hcv hy2, conc_sound hcv hk]
        have hvk := conc_sound hcv hk
        have hy1' : es'[j]? = some y := by simpa using hy1
        have hstay : (Instr.keyThatStays (((es'[j]?).map (·.key)).getD vk) vk).run P w = .ok vk w := by
          simp only [hy1', Option.map_some, Option.getD_some, hkey, Instr.keyThatStays]
          rw [if_pos (by rw [hvk]; exact sameBits_conc hbits hcv)]
          rfl
        refine ⟨_, ?_, Sim.put (o' := .map (es'.modify j fun e => { e with key := vk, val := vx }) c) hr hl hlive he1 ⟨_, rfl, ?_⟩, rfl⟩
        · simp only [hy1', Option.map_some, Option.getD_some] at hstay
          simp [Instr.mapUpdate, Sem.run_bind, under_run hu, Result.andThen, run_getObj_map he1, hok.ok w h1 hk, h3, run_setObj_map _ he1, hy1', hstay]
        · rw [Array.toList_modify]
          exact updL_sound hk hx j he2
  · cases h
theorem del_sound {t key elem ty : TypeId} {ts : Array TypeId} (ht : ts[0]? = some t) (hu : P.underlying t = some (.map key elem)) {K : KeyF} (hK : keyF P key = some K) {n0 : Nat} {ρ : Rho} {H H' : AH} {w : World} (hr : HR P n0 ρ H w) {S : AS} {m k : Opd} {v : AV} {vm vk : Value} (hm : VR ρ (m S) vm) (hk : VR ρ (k S) vk)
    (h : delF K m k S H = some (v, H')) : ActR P n0 ρ H w ((Builtin.delete_ ts ty #[vm, vk]).run P w) v H' := by
  have hok := keyF_ok hK
  obtain ⟨d, hud, _⟩ := ob_eq_some.1 hK
  unfold delF at h
  split at h
  · rename_i r hX
    rw [hX] at hm
    simp only [VR] at hm
    obtain ⟨l, hl, rfl⟩ := hm
    obtain ⟨es, c, hg, h⟩ := onMap_some h
    obtain ⟨h1, h⟩ := cond_some h
    obtain ⟨q, hq, h⟩ := ob_eq_some.1 h
    obtain ⟨es', he1, he2⟩ := hr.mapOf hl hg
    rw [EntsR_empty he2] at h1
    obtain ⟨r', h3, h4⟩ := hok.find w 0 hk he2 hq
    rw [← findKey_run hud] at h3
    have hlive : H.get r ≠ some .dead := by rw [hg]; simp
    cases q with
    | none => cases r' with
      | some r' => exact h4.elim
      | none =>
        simp only [Option.some.injEq, Prod.mk.injEq] at h
        obtain ⟨rfl, rfl⟩ := h
        refine ⟨.tuple #[], _, ρ, ?_, Sim.turn' hr hl hlive he1 hg ⟨_, rfl, he2⟩, ?_⟩
        · simp [Builtin.delete_, ht, Sem.run_bind, under_run hu, Result.andThen, run_getObj_map he1, hok.ok w h1 hk, h3, run_setObj_map _ he1]
        · exact ⟨#[], rfl, rfl⟩
    | some q => cases r' with
      | none => exact h4.elim
      | some r' =>
        obtain ⟨j, u⟩ := q
        obtain ⟨j', u'⟩ := r'
        obtain ⟨rfl, _, _, hj⟩ := h4
        simp only [Option.some.injEq, Prod.mk.injEq] at h
        obtain ⟨rfl, rfl⟩ := h
        refine ⟨.tuple #[], _, ρ, ?_, Sim.put (o' := .map (es'.eraseIdxIfInBounds j) c) hr hl hlive he1 ⟨_, rfl, ?_⟩, ?_⟩
        · simp [Builtin.delete_, ht, Sem.run_bind, under_run hu, Result.andThen, run_getObj_map he1, hok.ok w h1 hk, h3, run_setObj_map _ he1]
        · have : (es'.eraseIdxIfInBounds j).toList = es'.toList.eraseIdx j := by
            have hlt : j < es'.size := by have := EntsR_length he2; simp at this; omega
            simp [Array.eraseIdxIfInBounds, hlt]
          rw [this]
          exact delL_sound j he2
        · exact ⟨#[], rfl, rfl⟩
  · cases h
end Go.Ab
