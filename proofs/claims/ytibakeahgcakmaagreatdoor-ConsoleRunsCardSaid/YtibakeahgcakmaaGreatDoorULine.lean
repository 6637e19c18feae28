/- A line of the console: the plain answer and the walk. -/
import Derived.Test.YtibakeahgcakmaaGreatDoorUDoes
import Derived.WalkSpells
import Derived.Lib.SlicesS
set_option linter.unusedVariables false
namespace Go.Proofs.YtibakeahgcakmaaGreatDoor
open Go.Shelf Go.RowKit Go.Proofs.YtibakeahgcakmaaGreatDoorW.PrintWords Go.Proofs.YtibakeahgcakmaaGreatDoorW.PrintLast Go.Proofs.YtibakeahgcakmaaGreatDoorW.PrintMore PF Curve

abbrev turnW : ByteArray := ⟨#[116, 117, 114, 110]⟩
abbrev crossW : ByteArray := ⟨#[99, 114, 111, 115, 115]⟩
abbrev curveW : ByteArray := ⟨#[99, 117, 114, 118, 101]⟩
abbrev placeW : ByteArray := ⟨#[112, 108, 97, 99, 101]⟩
abbrev coverW : ByteArray := ⟨#[99, 111, 118, 101, 114]⟩
abbrev ownerW : ByteArray := ⟨#[111, 119, 110, 101, 114]⟩
def cmdsL : List PF.S65 := [⟨turnW, 6⟩, ⟨crossW, 8⟩, ⟨curveW, 2⟩, ⟨placeW, 1⟩, ⟨coverW, 4⟩, ⟨ownerW, 2⟩]
/-- Are two texts one? -/
def eqB (a b : ByteArray) : Bool := a.data.toList == b.data.toList
theorem eqB_iff (a b : ByteArray) : eqB a b = true ↔ a = b := by
  unfold eqB
  rw [beq_iff_eq]
  constructor
  · intro h; cases a; cases b; congr; exact Array.toList_inj.1 h
  · rintro rfl; rfl
theorem toList_beq (a b : ByteArray) : (a.toList == b.toList) = eqB a b := by
  by_cases h : a = b
  · rw [(eqB_iff a b).2 h]; exact (Lib.bytes_beq_iff a b).2 h
  · rw [(Lib.bytes_beq_false_iff a b).2 h]; symm; exact Bool.eq_false_iff.2 (fun h' => h ((eqB_iff a b).1 h'))
/-- Is it a command with so many numbers? -/
def isCmd (wd : ByteArray) (n : Int) : Bool :=
  (eqB wd turnW && n == 6) || (eqB wd crossW && n == 8) || (eqB wd curveW && n == 2) || (eqB wd placeW && n == 1) || (eqB wd coverW && n == 4) || (eqB wd ownerW && n == 2)
theorem isCmd_l0 (k : Nat) (wd : ByteArray) (n : Int) (i : Nat) (hi : i < 6) (c : PF.S65) (hc : PF.rd_T65 cmdsL (i : Int) = c) :
    console_command_45.l0 (k + 1) cmdsL 6 (i : Int) wd n = if (eqB wd c.f0 && n == c.f1) = true then some (i : Int) else console_command_45.l0 k cmdsL 6 ((i + 1 : Nat) : Int) wd n := by
  simp only [console_command_45.l0]
  rw [if_pos (by omega), if_pos (by omega), if_pos (by show (i : Int) < 6; omega), hc, toList_beq, w64 ((i : Int) + 1) (by omega) (by omega)]
  rfl
theorem isCmd_eq (wd : ByteArray) (n : Int) : console_command_30.f 20 cmdsL wd n = some (isCmd wd n) := by
  have e0 := isCmd_l0 19 wd n 0 (by omega) ⟨turnW, 6⟩ rfl
  have e1 := isCmd_l0 18 wd n 1 (by omega) ⟨crossW, 8⟩ rfl
  have e2 := isCmd_l0 17 wd n 2 (by omega) ⟨curveW, 2⟩ rfl
  have e3 := isCmd_l0 16 wd n 3 (by omega) ⟨placeW, 1⟩ rfl
  have e4 := isCmd_l0 15 wd n 4 (by omega) ⟨coverW, 4⟩ rfl
  have e5 := isCmd_l0 14 wd n 5 (by omega) ⟨ownerW, 2⟩ rfl
  have e6 : console_command_45.l0 14 cmdsL 6 ((5 + 1 : Nat) : Int) wd n = some (-1) := by simp only [console_command_45.l0]; rfl
  unfold console_command_30.f console_command_45.f
  rw [show ((cmdsL.length : Nat) : Int) = 6 from rfl, show (0 : Int) = ((0 : Nat) : Int) from rfl, e0, e1, e2, e3, e4, e5, e6]
  unfold isCmd
  generalize (eqB wd turnW && n == 6) = b0
  generalize (eqB wd crossW && n == 8) = b1
  generalize (eqB wd curveW && n == 2) = b2
  generalize (eqB wd placeW && n == 1) = b3
  generalize (eqB wd coverW && n == 4) = b4
  generalize (eqB wd ownerW && n == 2) = b5
  cases b0 <;> cases b1 <;> cases b2 <;> cases b3 <;> cases b4 <;> cases b5 <;> rfl
set_option maxHeartbeats 1000000 in
set_option maxRecDepth 100000 in
theorem commands_calls (w : World) : Calls Tryz.prog 29 #[] w fun e w' => e = .returned (.agg #[.string turnW, .int .i64 6, .string crossW, .int .i64 8, .string curveW, .int .i64 2, .string placeW, .int .i64 1, .string coverW, .int .i64 4, .string ownerW, .int .i64 2]) ∧ Below w.heap.size w w' := by
  go_enter Tryz.func29, Tryz.ntmps29
  go_wp2
  exact bodyPost_ret (v := .agg #[.string turnW, .int .i64 6, .string crossW, .int .i64 8, .string curveW, .int .i64 2, .string placeW, .int .i64 1, .string coverW, .int .i64 4, .string ownerW, .int .i64 2]) (by simp [results, Tryz.results29, go_sem]) rfl ⟨rfl, below_alloc (Below.refl _ _) _⟩

theorem cmds_cells (w : World) (g : Nat) (h : w.heap[g]? = some (.cells #[.string turnW, .int .i64 6, .string crossW, .int .i64 8, .string curveW, .int .i64 2, .string placeW, .int .i64 1, .string coverW, .int .i64 4, .string ownerW, .int .i64 2] 66 (0, 0))) :
    Kd.C PF.k65 w (some ⟨g, 0, none⟩) cmdsL.length cmdsL := by
  refine ⟨rfl, by decide, fun _ => ⟨_, rfl, fun j p hj => ?_⟩⟩
  have hb := fun i => blk_cell h i
  match j, hj with
  | 0, hj => cases hj; exact ⟨_, rfl, PF.k65_mk _ _, fun i u hu => by rw [add_plain, hb]; match i, hu with | 0, hu => exact hu | 1, hu => exact hu⟩
  | 1, hj => cases hj; exact ⟨_, rfl, PF.k65_mk _ _, fun i u hu => by rw [add_plain, hb]; match i, hu with | 0, hu => exact hu | 1, hu => exact hu⟩
  | 2, hj => cases hj; exact ⟨_, rfl, PF.k65_mk _ _, fun i u hu => by rw [add_plain, hb]; match i, hu with | 0, hu => exact hu | 1, hu => exact hu⟩
  | 3, hj => cases hj; exact ⟨_, rfl, PF.k65_mk _ _, fun i u hu => by rw [add_plain, hb]; match i, hu with | 0, hu => exact hu | 1, hu => exact hu⟩
  | 4, hj => cases hj; exact ⟨_, rfl, PF.k65_mk _ _, fun i u hu => by rw [add_plain, hb]; match i, hu with | 0, hu => exact hu | 1, hu => exact hu⟩
  | 5, hj => cases hj; exact ⟨_, rfl, PF.k65_mk _ _, fun i u hu => by rw [add_plain, hb]; match i, hu with | 0, hu => exact hu | 1, hu => exact hu⟩
theorem contains_calls (g : Nat) (wd : ByteArray) (n : Int) (b : Bool) (hb : isCmd wd n = b) (w : World) (h : Kd.C PF.k65 w (some ⟨g, 0, none⟩) cmdsL.length cmdsL) :
    Calls Tryz.prog 30 #[.slice (some ⟨g, 0, none⟩) 6 6, .agg #[.string wd, .int .i64 n]] w fun e w' => e = .returned (.bool b) ∧ Below w.heap.size w w' := by
  subst hb
  exact console_command_30.calls 20 _ 6 cmdsL wd n _ w h (by decide) (isCmd_eq wd n)

/-- The numbers of words. -/
def numsL : List ByteArray → Option (List Int)
  | [] => some []
  | s :: t => match numL s.data.toList, numsL t with
    | some x, some xs => some (x :: xs)
    | _, _ => none
def doesR (wd : ByteArray) (xs : List Int) : ByteArray × Int :=
  if eqB wd turnW = true then turnR xs else if eqB wd crossW = true then crossR xs else if eqB wd curveW = true then curveR xs else if eqB wd placeW = true then placeR xs else if eqB wd coverW = true then coversR xs else ownerR (rd xs 0) (rd xs 1)
/-- What a line's words tell. -/
def lineB : List ByteArray → ByteArray
  | [] => ⟨#[]⟩
  | wd :: rest => if isCmd wd rest.length = true then
      (match numsL rest with
       | none => failedB 2500
       | some xs => if (doesR wd xs).2 = 0 then (doesR wd xs).1 else failedB (doesR wd xs).2)
    else failedB 2500

set_option maxHeartbeats 4000000 in
set_option maxRecDepth 100000 in
theorem line_no (g c m : Nat) (wd : ByteArray) (w : World) (he : Env w) (k0 : w.cell? ⟨g, 0, none⟩ = some (.string wd)) (hsm : m ≤ 100000) (hcmd : isCmd wd m = false) :
    Calls Tryz.prog 19 #[.slice (some ⟨g, 0, none⟩) (m + 1) c] w fun e w' => e = .returned (.string (failedB 2500)) ∧ Below w.heap.size w w' := by
  have HC := Aside0.mk hcmd
  clear hcmd
  have n0 : 0 < m + 1 := by omega
  have nw : IntKind.i64.wrap (m : Int) = m := wraps_i64 (m : Int) (by omega) (by omega)
  have n1 : (0 : Int) < (m : Int) + 1 := by omega
  go_enter Tryz.func19, Tryz.ntmps19
  go_wp2_with (first
    | (go_at_call 29; (with_reducible refine (commands_calls _).mono ?_); rintro e w1 ⟨rfl, hb1⟩))
  have hA : Below w.heap.size w (w1.alloc (.cells #[.string turnW, .int .i64 6, .string crossW, .int .i64 8, .string curveW, .int .i64 2, .string placeW, .int .i64 1, .string coverW, .int .i64 4, .string ownerW, .int .i64 2] 66)) := below_alloc hb1 _
  have hK := cmds_cells (w1.alloc (.cells #[.string turnW, .int .i64 6, .string crossW, .int .i64 8, .string curveW, .int .i64 2, .string placeW, .int .i64 1, .string coverW, .int .i64 4, .string ownerW, .int .i64 2] 66)) w1.heap.size (heap_alloc_new w1 _)
  have k1 := pw_cell_below hA k0
  have HK := Aside0.mk hK
  clear hK
  generalize w1.alloc (.cells #[.string turnW, .int .i64 6, .string crossW, .int .i64 8, .string curveW, .int .i64 2, .string placeW, .int .i64 1, .string coverW, .int .i64 4, .string ownerW, .int .i64 2] 66) = wA at hA HK k1 ⊢
  go_region_held3 (fun w' => w'.cell? ⟨g, 0, none⟩ = some (.string wd) ∧ Aside0 (Below wA.heap.size wA w'))
    (first | (go_split_ands; refine ⟨?_, ?_⟩ <;> first | assumption | exact pw_cell_below ‹_› ‹_› | exact ⟨below_step (Aside0.out ‹_›) ‹_›⟩ | exact ⟨below_drew (Below.refl _ _)⟩))
    (first
      | (go_at_call 30; go_split_ands; (with_reducible refine (contains_calls w1.heap.size wd m false HC.out _ (Kd.C_below HK.out (Aside0.out ‹_›))).mono ?_); rintro e w' ⟨rfl, hb⟩))
  go_split_ands
  rename_i hz
  have hz2 : Below w.heap.size w w' := below_step hA hz.out
  go_wp2_with (first
    | (go_at_call 31; (with_reducible refine (failed_calls 2500 (by omega) (by omega) _ (he.below hz2)).mono ?_); rintro e w1 ⟨rfl, hb1⟩))
  go_ret
  exact ⟨rfl, below_step hz2 hb1⟩
theorem numsL_snoc : ∀ (l : List ByteArray) (s : ByteArray) (xs : List Int) (x : Int), numsL l = some xs → numL s.data.toList = some x → numsL (l ++ [s]) = some (xs ++ [x])
  | [], s, xs, x, h, hx => by cases h; simp [numsL, hx]
  | a :: t, s, xs, x, h, hx => by
    cases ha : numL a.data.toList with
    | none => simp [numsL, ha] at h
    | some y =>
      cases ht : numsL t with
      | none => simp [numsL, ha, ht] at h
      | some ys =>
        simp [numsL, ha, ht] at h
        subst h
        simp [numsL, ha, numsL_snoc t s ys x ht hx]
theorem numsL_none : ∀ (l : List ByteArray) (s : ByteArray), s ∈ l → numL s.data.toList = none → numsL l = none
  | a :: t, s, h, hx => by
    rcases List.mem_cons.1 h with rfl | h
    · simp [numsL, hx]
    · simp [numsL, numsL_none t s h hx]
theorem numsL_len : ∀ (l : List ByteArray) (xs : List Int), numsL l = some xs → xs.length = l.length ∧ ∀ x ∈ xs, 0 ≤ x ∧ x < 10000000000
  | [], xs, h => by cases h; exact ⟨rfl, fun x hx => by cases hx⟩
  | a :: t, xs, h => by
    cases ha : numL a.data.toList with
    | none => simp [numsL, ha] at h
    | some y =>
      cases ht : numsL t with
      | none => simp [numsL, ha, ht] at h
      | some ys =>
        simp [numsL, ha, ht] at h
        subst h
        have := numsL_len t ys ht
        refine ⟨by simp [this.1], fun x hx => ?_⟩
        rcases List.mem_cons.1 hx with rfl | hx
        · exact numL_range _ _ ha
        · exact this.2 x hx
theorem isCmd_pos (wd : ByteArray) (n : Int) (h : isCmd wd n = true) : 1 ≤ n ∧ n ≤ 8 := by
  unfold isCmd at h
  simp only [Bool.or_eq_true, Bool.and_eq_true, beq_iff_eq] at h
  omega
theorem rd_mem (xs : List Int) (h : ∀ x ∈ xs, 0 ≤ x ∧ x < 10000000000) (i : Int) : 0 ≤ rd xs i := by
  unfold rd
  rw [List.getD_eq_getElem?_getD]
  cases hq : xs[i.toNat]? with
  | none => simp
  | some v => simpa using (h v (List.mem_of_getElem? hq)).1
theorem tells_line (wd : ByteArray) (xs : List Int) (h : isCmd wd xs.length = true) (hp : ∀ x ∈ xs, 0 ≤ x ∧ x < 10000000000) : Tells wd xs (doesR wd xs) := by
  unfold isCmd at h
  simp only [Bool.or_eq_true, Bool.and_eq_true, beq_iff_eq, eqB_iff] at h
  rcases h with ((((⟨rfl, h⟩ | ⟨rfl, h⟩) | ⟨rfl, h⟩) | ⟨rfl, h⟩) | ⟨rfl, h⟩) | ⟨rfl, h⟩
  · exact tells_turn xs (by omega)
  · exact tells_cross xs (by omega)
  · exact tells_curve xs (by omega)
  · exact tells_place xs (by omega) (rd_mem xs hp 0)
  · exact tells_cover xs (by omega)
  · exact tells_owner xs (by omega) (rd_mem xs hp 1)

theorem doesR_range (wd : ByteArray) (xs : List Int) : -9223372036854775808 ≤ (doesR wd xs).2 ∧ (doesR wd xs).2 ≤ 9223372036854775807 := by
  unfold doesR turnR crossR curveR placeR coversR ownerR
  repeat' split
  all_goals (constructor <;> (show (_ : Int) ≤ _; first | decide | (dsimp only; omega)))

set_option maxHeartbeats 4000000 in
set_option maxRecDepth 100000 in
theorem line_yes (g c : Nat) (wd : ByteArray) (rest : List ByteArray) (w : World) (he : Env w) (hg : g < w.heap.size) (k0 : w.cell? ⟨g, 0, none⟩ = some (.string wd))
    (ks : ∀ i s, rest[i]? = some s → w.cell? ⟨g, 1 + i, none⟩ = some (.string s)) (hc : rest.length + 1 ≤ c) (hcmd : isCmd wd rest.length = true) :
    Calls Tryz.prog 19 #[.slice (some ⟨g, 0, none⟩) (rest.length + 1) c] w fun e w' => e = .returned (.string (lineB (wd :: rest))) ∧ Below w.heap.size w w' := by
  have HC := Aside0.mk hcmd
  have hm1 := isCmd_pos _ _ hcmd
  have HL : Aside0 (lineB (wd :: rest) = match numsL rest with
       | none => failedB 2500
       | some xs => if (doesR wd xs).2 = 0 then (doesR wd xs).1 else failedB (doesR wd xs).2) := ⟨by unfold lineB; exact if_pos hcmd⟩
  have HT := Aside0.mk (fun xs (h : xs.length = rest.length) => tells_line wd xs (h ▸ hcmd))
  have KS := Aside0.mk ks
  clear ks hcmd
  generalize lineB (wd :: rest) = LB at *
  obtain ⟨m, hm⟩ : ∃ m, m = rest.length := ⟨_, rfl⟩
  have HM := Aside0.mk hm
  rw [← hm] at HC hm1 HT hc ⊢
  clear hm
  have n0 : 0 < m + 1 := by omega
  have nc : 1 < c := by omega
  have nw : IntKind.i64.wrap (m : Int) = m := wraps_i64 (m : Int) (by omega) (by omega)
  have n1 : (0 : Int) < (m : Int) + 1 := by omega
  go_enter Tryz.func19, Tryz.ntmps19
  go_wp2_with (first
    | (go_at_call 29; (with_reducible refine (commands_calls _).mono ?_); rintro e w1 ⟨rfl, hb1⟩))
  have hA : Below w.heap.size w (w1.alloc (.cells #[.string turnW, .int .i64 6, .string crossW, .int .i64 8, .string curveW, .int .i64 2, .string placeW, .int .i64 1, .string coverW, .int .i64 4, .string ownerW, .int .i64 2] 66)) := below_alloc hb1 _
  have hK := cmds_cells (w1.alloc (.cells #[.string turnW, .int .i64 6, .string crossW, .int .i64 8, .string curveW, .int .i64 2, .string placeW, .int .i64 1, .string coverW, .int .i64 4, .string ownerW, .int .i64 2] 66)) w1.heap.size (heap_alloc_new w1 _)
  have k1 := pw_cell_below hA k0
  have HK := Aside0.mk hK
  clear hK
  generalize w1.alloc (.cells #[.string turnW, .int .i64 6, .string crossW, .int .i64 8, .string curveW, .int .i64 2, .string placeW, .int .i64 1, .string coverW, .int .i64 4, .string ownerW, .int .i64 2] 66) = wA at hA HK k1 ⊢
  go_region_held3 (fun w' => w'.cell? ⟨g, 0, none⟩ = some (.string wd) ∧ Aside0 (Below wA.heap.size wA w'))
    (first | (go_split_ands; refine ⟨?_, ?_⟩ <;> first | assumption | exact pw_cell_below ‹_› ‹_› | exact ⟨below_step (Aside0.out ‹_›) ‹_›⟩ | exact ⟨below_drew (Below.refl _ _)⟩))
    (first
      | (go_at_call 30; go_split_ands; (with_reducible refine (contains_calls w1.heap.size wd m true HC.out _ (Kd.C_below HK.out (Aside0.out ‹_›))).mono ?_); rintro e w' ⟨rfl, hb⟩))
  go_split_ands
  rename_i hz
  have hz2 := Aside0.mk (below_step hA hz.out : Below w.heap.size w w')
  clear hz hA HK k1
  go_wp2
  go_loopw [4, 26] (fun s4 s26 wr => ∃ (i : Nat) (xs : List Int), Aside0 (i ≤ m ∧ xs.length = i ∧ numsL (rest.take i) = some xs) ∧ s26 = .int .i64 (i : Int) ∧ Aside0 (Kd.R (Kd.int .i64) 3 wr w'.heap.size (fun _ => True) s4 xs) ∧ Aside0 (Below w'.heap.size w' wr)) (fun _ s26 _ => m - (intOf s26).toNat)
  case atStart => exact ⟨0, [], ⟨Nat.zero_le _, rfl, rfl⟩, rfl, ⟨Kd.R_nil _ _ _ _ _⟩, ⟨Below.refl _ _⟩⟩
  case round =>
    obtain ⟨i, xs, HN, rfl, HR, HW⟩ := hrel
    have him := HN.out.1
    by_cases hlt : i < m
    · obtain ⟨s, hs⟩ : ∃ s, rest[i]? = some s := ⟨rest[i]'(by have := HM.out; omega), List.getElem?_eq_getElem _⟩
      have k3 := pw_cell_below hz2.out (KS.out i s hs)
      have k4 : wr.cell? ⟨g, 1 + i, none⟩ = some (.string s) := pw_cell_below HW.out k3
      have n3 : (i : Int) < (m : Int) := by omega
      have HS := Aside0.mk hs
      clear hs k3
      have hn := number_eq 20 s (by omega)
      unfold numR at hn
      cases hx : numL s.data.toList with
      | none =>
        rw [hx] at hn
        have HLn := Aside0.mk (HL.out.trans (by rw [numsL_none rest s (List.mem_of_getElem? HS.out) hx]))
        go_wp2_with (first
          | (go_at_call 32; (with_reducible refine (console_number.calls 20 s 0 false _ hn).mono ?_); rintro e w3 ⟨rfl, hdr⟩; have hb3 := below_step hz2.out (below_step HW.out hdr.below : Below w'.heap.size w' w3); clear hdr)
          | (go_at_call 31; (with_reducible refine (failed_calls 2500 (by omega) (by omega) _ (he.below hb3)).mono ?_); rintro e w4 ⟨rfl, hb4⟩))
        exact bodyPost_ret (v := .string (failedB 2500)) (by simp [results, Tryz.results19, go_sem]) rfl ⟨by rw [HLn.out], below_step hb3 hb4⟩
      | some x =>
        rw [hx] at hn
        have HX := Aside0.mk hx
        go_wp2_with (first
          | (go_at_call 32; (with_reducible refine (console_number.calls 20 s x true _ hn).mono ?_); rintro e w3 ⟨rfl, hdr⟩; have hR3 := Aside0.mk (Kd.R_below HR.out hdr.below); have hW3 := Aside0.mk (pw_below_then' HW.out hdr.below HW.out.size); clear hdr)
          | (at_builtin; refine Kd.R_append (Kd.int .i64) (w0 := w') w'.heap.size rfl (.tmp 38) (.tmp 40) 35 3 (.int .i64 0) 8 rfl Tryz.underlying35 info3c rfl (by decide) (by omega) _ xs x [.int .i64 x] (fun _ => True) (fun _ => False) rfl rfl rfl (fun _ hk => hk.elim) (fun _ _ => trivial) hR3.out hW3.out hW3.out.size (by have := HN.out; omega) ?_; intro v5 w5 hr5 hb5 hg5 hat5))
        have HN2 : Aside0 (i + 1 ≤ m ∧ (xs ++ [x]).length = i + 1 ∧ numsL (rest.take (i + 1)) = some (xs ++ [x])) := ⟨by
          have := HN.out
          have hlt' : i < rest.length := by have := HM.out; omega
          refine ⟨by omega, by simp [this.2.1], ?_⟩
          rw [List.take_succ_eq_append_getElem hlt']
          refine numsL_snoc _ _ _ _ this.2.2 ?_
          have hq := HS.out
          rw [List.getElem?_eq_getElem hlt'] at hq
          cases hq
          exact HX.out⟩
        have hR7 : Aside0 (Kd.R (Kd.int .i64) 3 w5 w'.heap.size (fun _ => True) v5 (xs ++ [x])) := ⟨hr5⟩
        have hB7 : Aside0 (Below w'.heap.size w' w5) := ⟨hb5⟩
        clear hr5 hb5
        go_roundw
        case rel => exact ⟨i + 1, xs ++ [x], HN2, by go_num, hR7, hB7⟩
        case measure => simp [intOf]; omega
    · obtain rfl : i = m := by omega
      have hxs : xs.length = i := HN.out.2.1
      have hnx : numsL rest = some xs := by have := HN.out.2.2; rwa [HM.out, List.take_length] at this
      have hT := HT.out xs hxs (numsL_len rest xs hnx).2
      have HLn : LB = if (doesR wd xs).2 = 0 then (doesR wd xs).1 else failedB (doesR wd xs).2 := HL.out.trans (by rw [hnx])
      clear HL hnx HN HT
      subst hxs
      have hn0 : 0 < xs.length := by omega
      obtain ⟨g4, c4, rfl, _, hg4, _⟩ := Kd.R_form HR.out hn0
      obtain ⟨_, hc4, hC4⟩ := Kd.R_reads' HR.out
      have hT4 := Aside0.mk (fun W (h : Below wr.heap.size wr W) => hT (some ⟨g4, 0, none⟩) c4 W ((he.below hz2.out).below (below_step HW.out h)) (Kd.C_below hC4 h) hc4)
      have k5 := pw_cell_below HW.out (pw_cell_below hz2.out k0)
      have HZ := Aside0.mk (below_step hz2.out HW.out : Below w.heap.size w wr)
      have HT6 := Aside0.mk (doesR_range wd xs)
      generalize doesR wd xs = r at *
      obtain ⟨rs, re⟩ := r
      have HE := Aside0.mk HLn
      clear HLn hT hC4 HR HW hz2 KS
      have hT5 := Aside0.mk (hT4.out wr (Below.refl _ _))
      by_cases hre : re = 0
      · subst hre
        go_wp2_with (first
          | (go_at_call 33; (with_reducible refine hT5.out.mono ?_); rintro e w3 ⟨rfl, hb3⟩))
        exact bodyPost_ret (v := .string rs) (by simp [results, Tryz.results19, go_sem]) rfl ⟨by rw [HE.out]; simp, below_step HZ.out hb3⟩
      · go_wp2_with (first
          | (go_at_call 33; (with_reducible refine hT5.out.mono ?_); rintro e w3 ⟨rfl, hb3⟩; have hb4 := below_step HZ.out hb3)
          | (go_at_call 31; (with_reducible refine (failed_calls re HT6.out.1 HT6.out.2 _ (he.below hb4)).mono ?_); rintro e w4 ⟨rfl, hb5⟩))
        exact bodyPost_ret (v := .string (failedB re)) (by simp [results, Tryz.results19, go_sem]) rfl ⟨by rw [HE.out]; simp [hre], below_step hb4 hb5⟩
end Go.Proofs.YtibakeahgcakmaaGreatDoor
