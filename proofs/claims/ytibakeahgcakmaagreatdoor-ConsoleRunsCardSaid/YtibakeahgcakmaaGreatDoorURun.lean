/- Run: the walk. -/
import Derived.Test.YtibakeahgcakmaaGreatDoorULine
import Derived.Test.YtibakeahgcakmaaGreatDoorUText
import Derived.Test.YtibakeahgcakmaaGreatDoorUPFx9
set_option linter.unusedVariables false
set_option linter.unusedSimpArgs false
namespace Go.Proofs.YtibakeahgcakmaaGreatDoor
open Go.Shelf Go.RowKit Go.Proofs.YtibakeahgcakmaaGreatDoorW.PrintWords Go.Proofs.YtibakeahgcakmaaGreatDoorW.PrintLast Go.Proofs.YtibakeahgcakmaaGreatDoorW.PrintMore PF Curve

theorem builder_below {T e B b : Nat} {p : Value} {bs : List Value} {w w' : World} (h : Lib.BuilderAtF T e B b p bs w) (hb : Below w.heap.size w w') : Lib.BuilderAtF T e B b p bs w' := by
  obtain ⟨hB, v, hk, hown, hne⟩ := h
  have old : ∀ {k o}, w.heap[k]? = some o → w'.heap[k]? = some o := fun {k o} hk => by
    have hlt : k < w.heap.size := (Array.getElem?_eq_some_iff.1 hk).1
    rw [hb.block k hlt]; exact hk
  refine ⟨hB, v, old hk, ⟨hown.1, ?_⟩, hne⟩
  rcases hown.2 with hn | ⟨g, cap, cur, fz, hv, hbg, hg, rest⟩
  · exact .inl hn
  · exact .inr ⟨g, cap, cur, fz, hv, hbg, old hg, rest⟩
theorem isBuilder_below {T e B b : Nat} {bs : List Value} {w w' : World} (h : Lib.IsBuilderF T e B b bs w) (hb : Below w.heap.size w w') : Lib.IsBuilderF T e B b bs w' :=
  h.elim (fun x => .inl (builder_below x hb)) (fun x => .inr (builder_below x hb))
theorem enters17 : ∀ args w, (callFunc 17 args).run Tryz.prog w = .ok (.enter 17 args) w := enters_of Tryz.func17 (by kernel_rfl) rfl
theorem blank_at (w : World) : PredAtRunes Tryz.prog 17 #[] blankP w := by
  intro W x hx hb
  have h : console_blank.f (x : Int) = some (blankP x) := by
    unfold console_blank.f blankP
    by_cases h1 : x = 32
    · subst h1; rfl
    · rw [if_neg (by omega)]
      congr 1
      by_cases h2 : x = 9
      · subst h2; rfl
      · have a : ((x : Int) == 9) = false := by rw [beq_eq_false_iff_ne]; omega
        have b : (x == 32) = false := by rw [beq_eq_false_iff_ne]; omega
        have c : (x == 9) = false := by rw [beq_eq_false_iff_ne]; omega
        rw [a, b, c]; rfl
  refine (console_blank.calls (x : Int) (blankP x) W h).mono ?_
  rintro e w' ⟨rfl, hd⟩
  exact ⟨rfl, hd.out⟩

theorem itoa100 (n : Int) (h : -9223372036854775808 ≤ n ∧ n ≤ 9223372036854775807) : (itoaB n).size ≤ 100 := itoaB_size n h.1 h.2
theorem turnB_size (z : Int) : (turnB z).size ≤ 5 := by unfold turnB; repeat' split
                                                        all_goals decide
theorem ownerR_rd (x0 i : Int) (h : 1 ≤ x0 ∧ x0 ≤ 8) : 0 ≤ rd (ownersL x0) i ∧ rd (ownersL x0) i ≤ 8 := by
  unfold rd ownersL
  rw [List.getD_eq_getElem?_getD, List.getElem?_map]
  cases hq : (List.range x0.toNat)[i.toNat]? with
  | none => simp
  | some v =>
    have hv := List.mem_range.1 (List.mem_of_getElem? hq)
    simp; omega
theorem doesR_size (wd : ByteArray) (xs : List Int) : (doesR wd xs).1.size ≤ 300 := by
  have hb1 : blankB.size = 1 := rfl
  unfold doesR
  repeat' split
  · unfold turnR
    split
    · have := turnB_size (turnZ (rd xs 0) (rd xs 1) (rd xs 2) (rd xs 3) (rd xs 4) (rd xs 5))
      dsimp only; omega
    · have := turnB_size 0
      dsimp only; omega
  · unfold crossR
    split
    · dsimp only; split <;> decide
    · decide
  · unfold curveR
    split
    · rename_i h
      have hr := enc_range (rd xs 0) (rd xs 1) h.2.1 h.2.2.2
      exact Nat.le_trans (itoa100 _ (by omega)) (by omega)
    · exact Nat.le_trans (itoa100 0 (by omega)) (by omega)
  · unfold placeR
    split
    · have hb := deh_lt 16 (rd xs 0).toNat (by show _ < 4294967296; omega)
      have b1 : (deh 16 (rd xs 0).toNat).1 < 65536 := hb.1
      have b2 : (deh 16 (rd xs 0).toNat).2 < 65536 := hb.2
      have a1 := itoa100 (((deh 16 (rd xs 0).toNat).1 * 65536 : Nat) : Int) (by omega)
      have a2 := itoa100 (((deh 16 (rd xs 0).toNat).2 * 65536 : Nat) : Int) (by omega)
      show ByteArray.size (_ ++ _ ++ _) ≤ 300
      rw [ByteArray.size_append, ByteArray.size_append]
      omega
    · have a1 := itoa100 0 (by omega)
      show ByteArray.size (_ ++ _ ++ _) ≤ 300
      rw [ByteArray.size_append, ByteArray.size_append]
      omega
  · unfold coversR tellL
    split
    · rename_i h
      have hl := gridC_len2 _ _ _ _ h
      have hs := sumC_range (coverL (rd xs 0) (rd xs 1) (rd xs 2) (rd xs 3))
      have a1 := itoa100 ((coverL (rd xs 0) (rd xs 1) (rd xs 2) (rd xs 3)).length : Int) (by omega)
      have a2 := itoa100 _ hs
      show ByteArray.size (_ ++ _ ++ _) ≤ 300
      rw [ByteArray.size_append, ByteArray.size_append]
      omega
    · have a1 := itoa100 (([] : List PG.S86).length : Int) (by simp)
      have a2 := itoa100 (sumC []) (by have := sumC_range []; exact this)
      show ByteArray.size (_ ++ _ ++ _) ≤ 300
      rw [ByteArray.size_append, ByteArray.size_append]
      omega
  · unfold ownerR
    split
    · decide
    · split
      · exact Nat.le_trans (itoa100 0 (by omega)) (by omega)
      · have := ownerR_rd (rd xs 0) (atI (startsL (rd xs 0)) (rd xs 1)) (by omega)
        exact Nat.le_trans (itoa100 _ (by omega)) (by omega)
theorem failedB_size (n : Int) (h : -9223372036854775808 ≤ n ∧ n ≤ 9223372036854775807) : (failedB n).size ≤ 300 := by
  unfold failedB
  have := itoa100 n h
  have e : errorB.size = 6 := rfl
  rw [ByteArray.size_append]
  omega
theorem lineB_size (ws : List ByteArray) : (lineB ws).size ≤ 300 := by
  unfold lineB
  split
  · decide
  · split
    · split
      · exact failedB_size 2500 (by omega)
      · split
        · exact doesR_size _ _
        · exact failedB_size _ (doesR_range _ _)
    · exact failedB_size 2500 (by omega)

/-- A line's answer, as bytes. -/
def lineW (ws : List ByteArray) : List UInt8 := match ws with
  | [] => []
  | wd :: rest => if wd.data.toList.head? = some 35 then [] else (lineB (wd :: rest)).data.toList ++ [10]
def lineL (l : List UInt8) : List UInt8 := lineW ((fl l []).map fun x => ⟨x.toArray⟩)
/-- A script's answer, as bytes. -/
def runL (l : List UInt8) : List UInt8 := (ln l []).flatMap lineL
theorem lineW_len (ws : List ByteArray) : (lineW ws).length ≤ 301 := by
  unfold lineW
  split
  · simp
  · split
    · simp
    · rename_i wd rest _
      have h := lineB_size (wd :: rest)
      rw [List.length_append]
      have e : (lineB (wd :: rest)).data.toList.length = (lineB (wd :: rest)).size := by simp
      simp only [List.length_cons, List.length_nil]
      omega
theorem flat_len (ls : List (List UInt8)) : (ls.flatMap lineL).length ≤ ls.length * 301 := by
  induction ls with
  | nil => simp
  | cons a t ih =>
    have := lineW_len ((fl a []).map fun x => ⟨x.toArray⟩)
    have e : lineL a = lineW ((fl a []).map fun x => ⟨x.toArray⟩) := rfl
    rw [List.flatMap_cons, List.length_append, List.length_cons, e]
    omega

theorem run_long (s : ByteArray) (hs : 65536 < s.size) (hs2 : s.size ≤ 9000000000000000000) (w : World) :
    Calls Tryz.prog 8 #[.string s] w fun e w' => e = .returned (.tuple #[.string ⟨#[]⟩, .int .i64 2501]) ∧ Below w.heap.size w w' := by
  generalize hn : s.size = n at *
  have h1 : (65536 : Int) < (n : Int) := by omega
  go_enter Tryz.func8, Tryz.ntmps8
  go_wp2
  go_ret2
  exact ⟨rfl, Below.refl _ _⟩

/-- The lines of a script, as the program holds them. -/
def linesB (s : ByteArray) : List ByteArray := Lib.splitB nl 0 (Lib.countB s nl) s
def outB (ls : List ByteArray) : List UInt8 := ls.flatMap fun l => lineW (Lib.goFieldsP blankP l)
theorem outB_run (s : ByteArray) : outB (linesB s) = runL s.data.toList := by
  unfold outB runL
  rw [← lines_eq s, List.flatMap_map]
  congr 1
  funext l
  show _ = lineW ((fl l.data.toList []).map fun x => ⟨x.toArray⟩)
  rw [← fields_bytes]
theorem outB_len (ls : List ByteArray) : (outB ls).length ≤ ls.length * 301 := by
  induction ls with
  | nil => simp [outB]
  | cons a t ih =>
    have := lineW_len (Lib.goFieldsP blankP a)
    unfold outB at ih ⊢
    rw [List.flatMap_cons, List.length_append, List.length_cons]
    omega
theorem outB_snoc (ls : List ByteArray) (l : ByteArray) : outB (ls ++ [l]) = outB ls ++ lineW (Lib.goFieldsP blankP l) := by
  unfold outB; rw [List.flatMap_append]; simp
theorem linesB_len (s : ByteArray) : (linesB s).length = Lib.countB s nl + 1 ∧ Lib.countB s nl ≤ s.size ∧ ∀ l ∈ linesB s, l.size ≤ s.size := by
  refine ⟨Lib.splitB_all nl (by decide) 0 _ s rfl, Lib.countB_le nl (by decide) _ s (Nat.le_refl _), fun l hl => ?_⟩
  have h := List.mem_map_of_mem (f := fun x : ByteArray => x.data.toList) hl
  rw [show (linesB s).map (fun x : ByteArray => x.data.toList) = ln s.data.toList [] from lines_eq s] at h
  have := (ln_len s.data.toList []).2 _ h
  have e1 : l.data.toList.length = l.size := by simp
  have e2 : s.data.toList.length = s.size := by simp
  simp only [List.length_nil] at this
  omega
theorem words_len (l : ByteArray) : (Lib.goFieldsP blankP l).length ≤ l.size + 1 ∧ ∀ x ∈ Lib.goFieldsP blankP l, ∃ c t, x.data.toList = c :: t := by
  rw [fields_bytes, List.length_map]
  have e2 : l.data.toList.length = l.size := by simp
  refine ⟨by rw [← e2]; exact fl_len _ _, fun x hx => ?_⟩
  obtain ⟨y, hy, rfl⟩ := List.mem_map.1 hx
  have := fl_ne _ _ y hy
  cases y with
  | nil => exact absurd rfl this
  | cons c t => exact ⟨c, t, rfl⟩
theorem line_calls (g : Nat) (wd : ByteArray) (rest : List ByteArray) (w : World) (he : Env w) (ks : ∀ i s, (wd :: rest)[i]? = some s → w.cell? ⟨g, i, none⟩ = some (.string s)) (hl : rest.length ≤ 100000) :
    Calls Tryz.prog 19 #[.slice (some ⟨g, 0, none⟩) (rest.length + 1) (rest.length + 1)] w fun e w' => e = .returned (.string (lineB (wd :: rest))) ∧ Below w.heap.size w w' := by
  have k0 := ks 0 wd rfl
  cases hc : isCmd wd rest.length with
  | true => exact line_yes g _ wd rest w he (World.block_lt_of_cell? w _ k0) k0 (fun i s hs => by rw [Nat.add_comm]; exact ks (i + 1) s hs) (Nat.le_refl _) hc
  | false =>
    have e : lineB (wd :: rest) = failedB 2500 := by unfold lineB; exact if_neg (by rw [hc]; decide)
    rw [e]
    exact line_no g _ rest.length wd w he k0 hl hc

theorem own_strings {w : World} {base A : Nat} {ws : List ByteArray} (h : w.ownsRow base 9 1 (.slice (some ⟨A, 0, none⟩) ws.length ws.length) ws.length (ws.map Value.string)) :
    ∀ i s, ws[i]? = some s → w.cell? ⟨A, i, none⟩ = some (.string s) := by
  intro i s hs
  have hi : i < ws.length := (List.getElem?_eq_some_iff.1 hs).1
  rw [h.cellAt i (by omega), List.getElem?_map, hs]
  rfl
theorem byte35_eq (c : UInt8) (h : c = 35) : ((c.toNat : Int) != 35) = false := by subst h; decide
theorem byte35_ne (c : UInt8) (h : ¬ c = 35) : ((c.toNat : Int) != 35) = true := by
  rw [bne_iff_ne]
  intro e
  have h2 : c.toNat = (35 : UInt8).toNat := by have : (35 : UInt8).toNat = 35 := by decide
                                               omega
  exact h (UInt8.toNat_inj.1 h2)
theorem meas {n i : Nat} (h : i < n) : n - (intOf (.int .i64 ((i : Int) + 1))).toNat < n - (intOf (.int .i64 (i : Int))).toNat := by simp [intOf]; omega
theorem bytes_put (l : List UInt8) (s : ByteArray) : Lib.byteCells l ++ Lib.strCells (s ++ (⟨#[10]⟩ : ByteArray)) = Lib.byteCells (l ++ (s.data.toList ++ [10])) := by
  unfold Lib.byteCells Lib.strCells
  rw [List.map_append, ByteArray.data_append, Array.toList_append]
theorem split_calls (s : ByteArray) (m : Int) (w : World) (hs : s.size < 4294967281) (hm : w.cell? ⟨0, 0, none⟩ = some (.int .i64 m)) :
    Calls Tryz.prog 15 #[.string s, .string ⟨#[10]⟩] w fun e w' => e = .returned (.slice (some ⟨w.heap.size, 0, none⟩) (linesB s).length (linesB s).length) ∧
      w'.heap[w.heap.size]? = some (.cells ((linesB s).map Value.string).toArray 9 (0, 0)) ∧ Below w.heap.size w w' := by
  refine (Tryz.strings_Split s nl m w hs hm (by decide)).mono ?_
  rintro e w' ⟨rfl, rfl⟩
  rw [(linesB_len s).1]
  exact ⟨rfl, heap_alloc_new w _, below_alloc (Below.refl _ w) _⟩

set_option maxHeartbeats 4000000 in
set_option maxRecDepth 100000 in
theorem run_calls (s : ByteArray) (hs : s.size ≤ 65536) (w : World) (he : Env w) :
    Calls Tryz.prog 8 #[.string s] w fun e w' => e = .returned (.tuple #[.string ⟨(runL s.data.toList).toArray⟩, .int .i64 0]) ∧ Below w.heap.size w w' := by
  have h1 : ¬ (65536 : Int) < (s.size : Int) := by omega
  have hnl : 1 ≤ nl.size := by decide
  obtain ⟨ml, hml⟩ := he.ml
  have HO := outB_run s
  generalize runL s.data.toList = R at HO ⊢
  replace HO := Aside0.mk HO
  obtain ⟨hl1, hl2, hl3⟩ := linesB_len s
  have HL3 := Aside0.mk hl3
  have HN := Aside0.mk (show (linesB s).length ≤ 65537 by omega)
  have HS := Aside0.mk hs
  have hss : s.size < 4294967281 := by omega
  clear hl3 hl1 hl2 hs
  go_enter Tryz.func8, Tryz.ntmps8
  go_wp2_with (first
    | (go_at_call 15; (with_reducible refine (split_calls s ml _ hss (pw_cell_below (below_alloc (Below.refl _ w) _) hml)).mono ?_); rintro e w1 ⟨rfl, hG, hb1⟩))
  have hA : Below w.heap.size w w1 := below_step (below_alloc (Below.refl _ w) _) hb1
  have hB : Lib.IsBuilderF 45 5 w.heap.size w.heap.size (Lib.byteCells (outB [])) w1 := by
    refine isBuilder_below (.inl ⟨Nat.le_refl _, .slice none 0 0, heap_alloc_new w _, ?_, nofun⟩) hb1
    exact ⟨rfl, .inl ⟨rfl, rfl⟩⟩
  have hsz : (w.alloc (.cells #[.pointer none, .slice none 0 0] 45)).heap.size = w.heap.size + 1 := Array.size_push ..
  rw [hsz] at hG
  clear hsz hb1 hss
  generalize linesB s = L at *
  have HA := Aside0.mk hA
  have HB := Aside0.mk hB
  have HG := Aside0.mk hG
  clear hA hB hG
  go_loopw [14] (fun s14 wr => ∃ i : Nat, i ≤ L.length ∧ s14 = .int .i64 (i : Int) ∧ Aside0 (Lib.IsBuilderF 45 5 w.heap.size w.heap.size (Lib.byteCells (outB (L.take i))) wr) ∧ Aside0 (Below w.heap.size w wr) ∧ Aside0 (wr.heap[w.heap.size + 1]? = some (.cells (L.map Value.string).toArray 9 (0, 0)))) (fun s14 _ => L.length - (intOf s14).toNat)
  case atStart => exact ⟨0, Nat.zero_le _, rfl, HB, HA, HG⟩
  case round =>
    obtain ⟨i, hi, rfl, HBi, HWi, HGi⟩ := hrel
    by_cases hlt : i < L.length
    · obtain ⟨l, hl⟩ : ∃ l, L[i]? = some l := ⟨L[i], List.getElem?_eq_getElem _⟩
      have k0 : wr.cell? ⟨w.heap.size + 1, i, none⟩ = some (.string l) := by
        rw [Lib.cell_of_heap HGi.out]; simp [hl]
      have HLi := Aside0.mk (List.take_succ_eq_append_getElem hlt)
      have hls : l.size ≤ 65536 := Nat.le_trans (HL3.out l (List.mem_of_getElem? hl)) HS.out
      obtain ⟨hw1, hw2⟩ := words_len l
      have HW2 := Aside0.mk hw2
      have nlt : (i : Int) < (L.length : Int) := by omega
      have hw64 : wrap64 ((i : Int) + 1) = (i : Int) + 1 := w64 _ (by omega) (by have := HN.out; omega)
      clear hw2
      have HLT : Aside0 (outB (L.take (i + 1)) = outB (L.take i) ++ lineW (Lib.goFieldsP blankP l)) := ⟨by
        rw [← outB_snoc, List.take_succ_eq_append_getElem hlt]
        rw [List.getElem?_eq_getElem hlt] at hl; cases hl; rfl⟩
      clear HLi hl
      have HFc := Aside0.mk (fun W (hW : Below wr.heap.size wr W) => Tryz.strings_FieldsFunc_runes 17 #[] enters17 blankP l W (by omega) (blank_at W))
      generalize Lib.goFieldsP blankP l = ws at *
      cases ws with
      | nil =>
        clear hw1 HW2
        go_wp2_with (first
          | (go_at_call 16; (with_reducible refine (HFc.out wr (Below.refl _ _)).mono ?_); rintro e w3 ⟨A, rfl, hA3, hown, hb3⟩))
        go_roundw
        case rel => exact ⟨i + 1, hlt, by go_num, ⟨by rw [HLT.out]; simpa [lineW] using isBuilder_below HBi.out hb3⟩, ⟨below_step HWi.out hb3⟩, ⟨heap_below HGi.out hb3⟩⟩
        case measure => rw [hw64]; exact meas hlt
      | cons wd rest =>
        obtain ⟨c, t, hct⟩ := HW2.out wd (List.mem_cons_self ..)
        have hz : 0 < wd.size := by have : wd.data.toList.length = wd.size := by simp
                                    rw [hct, List.length_cons] at this; omega
        have hc0 : wd[0]'hz = c := by
          have : wd.data.toList[0]? = some c := by rw [hct]; rfl
          rw [List.getElem?_eq_getElem (by simpa using hz)] at this
          exact Option.some.inj this
        by_cases h35 : c = 35
        · have hq : (((wd[0]'hz).toNat : Int) != 35) = false := by rw [hc0]; exact byte35_eq c h35
          have hlw : lineW (wd :: rest) = [] := if_pos (by rw [hct, h35]; rfl)
          have HLW := Aside0.mk (HLT.out.trans (by rw [hlw, List.append_nil]))
          clear hlw hc0 hct HW2 hw1
          go_wp2_with (first
            | (go_at_call 16; (with_reducible refine (HFc.out wr (Below.refl _ _)).mono ?_); rintro e w3 ⟨A, rfl, hA3, hown, hb3⟩; have k3 : w3.cell? ⟨A, 0, none⟩ = some (.string wd) := (hown.cellAt 0 (by simp)).trans rfl))
          go_roundw
          case rel => exact ⟨i + 1, hlt, by go_num, ⟨by rw [HLW.out]; exact isBuilder_below HBi.out hb3⟩, ⟨below_step HWi.out hb3⟩, ⟨heap_below HGi.out hb3⟩⟩
          case measure => rw [hw64]; exact meas hlt
        · have hq : (((wd[0]'hz).toNat : Int) != 35) = true := by
            rw [hc0]; exact byte35_ne c h35
          have hlw : lineW (wd :: rest) = (lineB (wd :: rest)).data.toList ++ [10] := if_neg (by rw [hct]; simpa using h35)
          have HLW := Aside0.mk (HLT.out.trans (by rw [hlw]))
          have hlb := lineB_size (wd :: rest)
          have HLB := Aside0.mk hlb
          have HWL : Aside0 ((Lib.byteCells (outB (L.take i))).length + (lineB (wd :: rest) ++ (⟨#[10]⟩ : ByteArray)).size ≤ 140737488355328) := ⟨by
            have h1 := outB_len (L.take i)
            have h2 := HN.out
            have e : (⟨#[10]⟩ : ByteArray).size = 1 := rfl
            rw [Lib.byteCells_length, ByteArray.size_append, e]
            rw [List.length_take] at h1
            omega⟩
          have hrl : rest.length ≤ 100000 := by simp only [List.length_cons] at hw1; omega
          clear hlw hc0 hct HW2 hw1
          go_wp2_with (first
            | (go_at_call 16; (with_reducible refine (HFc.out wr (Below.refl _ _)).mono ?_); rintro e w3 ⟨A, rfl, hA3, hown, hb3⟩; have k3 : w3.cell? ⟨A, 0, none⟩ = some (.string wd) := (hown.cellAt 0 (by simp)).trans rfl; have ks3 := Aside0.mk (own_strings hown))
            | (go_at_call 19; (with_reducible refine (line_calls A wd rest _ (he.below (below_step HWi.out hb3)) ks3.out hrl).mono ?_); rintro e w4 ⟨rfl, hb4⟩)
            | (go_at_call 18; (with_reducible refine (writeString w.heap.size w.heap.size (Lib.byteCells (outB (L.take i))) (lineB (wd :: rest) ++ ⟨#[10]⟩) _ (isBuilder_below (isBuilder_below HBi.out hb3) hb4) HWL.out (below_step (below_step HWi.out hb3) hb4).size).mono ?_); rintro e w5 ⟨rfl, hB5, hb5, ho5⟩))
          have hB6 : Aside0 (Lib.IsBuilderF 45 5 w.heap.size w.heap.size (Lib.byteCells (outB (L.take (i + 1)))) w5) := ⟨by rw [HLW.out]; exact .inr (bytes_put _ _ ▸ hB5)⟩
          have hG6 : Aside0 (w5.heap[w.heap.size + 1]? = some (.cells (L.map Value.string).toArray 9 (0, 0))) :=
            ⟨ho5 _ _ (heap_below (heap_below HGi.out hb3) hb4) (by intro h; have := Option.some.inj h; omega) (by intro c2 fz h; cases h)⟩
          have hW6 : Aside0 (Below w.heap.size w w5) := ⟨(below_step (below_step HWi.out hb3) hb4).trans hb5⟩
          go_roundw
          case rel => exact ⟨i + 1, hlt, by go_num, hB6, hW6, hG6⟩
          case measure => rw [hw64]; exact meas hlt
    · obtain rfl : i = L.length := by omega
      rw [List.take_length] at HBi
      rw [HO.out] at HBi
      go_wp2_with (first
        | (go_at_call 20; (with_reducible refine (Tryz.Builder_String_any_k w.heap.size w.heap.size R wr HBi.out HWi.out.size).mono ?_); rintro e w5 ⟨rfl, hB5, hb5, ho5⟩))
      go_ret2
      exact ⟨rfl, HWi.out.trans hb5⟩
end Go.Proofs.YtibakeahgcakmaaGreatDoor
