/- The console's text, byte by byte: lines and words. -/
import Derived.Lib.FieldsP
import Derived.Lib.SpaceUEq
import Derived.Lib.SplitLaws
set_option linter.unusedVariables false
set_option linter.unusedSimpArgs false
namespace Go.Proofs.YtibakeahgcakmaaGreatDoor
open Go.Lib

/-- Does a rune stand between words? -/
def blankP (x : Nat) : Bool := x == 32 || x == 9
def isBl (c : UInt8) : Bool := c == 32 || c == 9
/-- The words of a line's bytes. -/
def fl : List UInt8 → List UInt8 → List (List UInt8)
  | [], cur => if cur = [] then [] else [cur]
  | c :: t, cur => if isBl c = true then (if cur = [] then fl t [] else cur :: fl t []) else fl t (cur ++ [c])
/-- The lines of a text's bytes. -/
def ln : List UInt8 → List UInt8 → List (List UInt8)
  | [], cur => [cur]
  | c :: t, cur => if c = 10 then cur :: ln t [] else ln t (cur ++ [c])

theorem fl_ne : ∀ (l cur : List UInt8), ∀ x ∈ fl l cur, x ≠ []
  | [], cur, x, h => by
    unfold fl at h
    split at h
    · cases h
    · simp at h; subst h; assumption
  | c :: t, cur, x, h => by
    unfold fl at h
    split at h
    · split at h
      · exact fl_ne t [] x h
      · rcases List.mem_cons.1 h with rfl | h
        · assumption
        · exact fl_ne t [] x h
    · exact fl_ne t _ x h
theorem fl_len : ∀ (l cur : List UInt8), (fl l cur).length ≤ l.length + 1
  | [], cur => by unfold fl; split <;> simp
  | c :: t, cur => by
    unfold fl
    have h1 := fl_len t []
    have h2 := fl_len t (cur ++ [c])
    simp only [List.length_cons]
    split
    · split
      · omega
      · simp only [List.length_cons]; omega
    · omega
theorem fl_skip : ∀ (ys t cur : List UInt8), (∀ y ∈ ys, isBl y = false) → fl (ys ++ t) cur = fl t (cur ++ ys)
  | [], t, cur, _ => by simp
  | y :: ys, t, cur, h => by
    rw [List.cons_append, fl, if_neg (by rw [h y (List.mem_cons_self ..)]; decide), fl_skip ys t _ (fun z hz => h z (List.mem_cons_of_mem _ hz))]
    simp

theorem isBl_hi (c : UInt8) (h : 128 ≤ c.toNat) : isBl c = false := by
  unfold isBl
  rw [Bool.or_eq_false_iff]
  constructor <;> (rw [beq_eq_false_iff_ne]; rintro rfl; revert h; decide)
theorem decodeN_hi (n b0 b1 b2 b3 : Nat) (h : 128 ≤ b0) : 128 ≤ (decodeN n b0 b1 b2 b3).1 := by
  rcases Nat.lt_or_ge b0 128 with h' | _
  · omega
  unfold decodeN
  repeat' split
  all_goals (simp only at *; omega)
/-- One rune: a blank alone, or bytes that are none. -/
theorem rune_blank (s : ByteArray) (pos : Nat) (h : pos < s.data.toList.length) :
    (blankP (Utf8.decode s pos).1 = true → (Utf8.decode s pos).2 = 1 ∧ ∃ c t, s.data.toList.drop pos = c :: t ∧ isBl c = true) ∧
    (blankP (Utf8.decode s pos).1 = false → pos + (Utf8.decode s pos).2 ≤ s.data.toList.length ∧ ∀ y ∈ (s.data.toList.drop pos).take (Utf8.decode s pos).2, isBl y = false) := by
  rw [← decodeL_drop]
  have hl : (s.data.toList.drop pos).length = s.data.toList.length - pos := List.length_drop
  generalize s.data.toList.drop pos = l at *
  cases l with
  | nil => rw [List.length_nil] at hl; omega
  | cons c t =>
    by_cases ha : c.toNat < 128
    · rw [decodeL_ascii c t ha]
      refine ⟨fun hb => ⟨rfl, c, t, rfl, ?_⟩, fun hb => ⟨by simp at hl ⊢; omega, fun y hy => ?_⟩⟩
      · unfold blankP at hb; unfold isBl
        simp only [Bool.or_eq_true, beq_iff_eq] at hb ⊢
        rcases hb with hb | hb
        · exact .inl (UInt8.toNat_inj.1 hb)
        · exact .inr (UInt8.toNat_inj.1 hb)
      · simp at hy; subst hy
        unfold blankP at hb; unfold isBl
        simp only [Bool.or_eq_false_iff, beq_eq_false_iff_ne] at hb ⊢
        exact ⟨fun e => hb.1 (by rw [e]; rfl), fun e => hb.2 (by rw [e]; rfl)⟩
    · have hd := decodeL_N (c :: t)
      have hc := decodeN_conts (c :: t).length ((c :: t).getD 0 0).toNat ((c :: t).getD 1 0).toNat ((c :: t).getD 2 0).toNat ((c :: t).getD 3 0).toNat
      have hh := decodeN_hi (c :: t).length ((c :: t).getD 0 0).toNat ((c :: t).getD 1 0).toNat ((c :: t).getD 2 0).toNat ((c :: t).getD 3 0).toNat (by simpa using ha)
      rw [← hd] at hc hh
      obtain ⟨c2, c3, c4, c5⟩ := hc
      have hw := decodeL_width (c :: t)
      generalize decodeL (c :: t) = dd at *
      refine ⟨fun hb => ?_, fun _ => ⟨?_, fun y hy => ?_⟩⟩
      · unfold blankP at hb
        simp only [Bool.or_eq_true, beq_iff_eq] at hb
        omega
      · simp only [List.length_cons] at *
        omega
      · obtain ⟨i, hi, hy⟩ := List.getElem_of_mem hy
        rw [List.length_take] at hi
        rw [List.getElem_take] at hy
        subst hy
        apply isBl_hi
        have hi2 : i < (c :: t).length := by omega
        have e : (c :: t)[i] = (c :: t).getD i 0 := by rw [List.getD_eq_getElem?_getD, List.getElem?_eq_getElem hi2]; rfl
        rw [e]
        match i, hi with
        | 0, _ => simpa using ha
        | 1, hi => have := (c2 (by omega)).1; omega
        | 2, hi => have := (c3 (by omega)).1; omega
        | 3, hi => have := (c4 (by omega)).1; omega
        | i + 4, hi => omega

def sl (s : ByteArray) (x : Nat × Nat) : List UInt8 := (s.extract x.1 x.2).data.toList
theorem sl_snoc (s : ByteArray) (a pos k : Nat) (h : a ≤ pos) : sl s (a, pos + k) = sl s (a, pos) ++ (s.data.toList.drop pos).take k := by
  unfold sl
  rw [extract_data, extract_data]
  obtain ⟨d, rfl⟩ : ∃ d, pos = a + d := ⟨pos - a, by omega⟩
  rw [show a + d + k - a = d + k by omega, show a + d - a = d by omega, List.take_add, List.drop_drop]
theorem sl_ne (s : ByteArray) (a pos : Nat) (h : a < pos) (h2 : pos ≤ s.data.toList.length) : sl s (a, pos) ≠ [] := by
  unfold sl
  rw [extract_data]
  intro e
  have := congrArg List.length e
  rw [List.length_take, List.length_drop] at this
  simp at this h2
  omega
theorem sl_self (s : ByteArray) (pos : Nat) : sl s (pos, pos) = [] := by unfold sl; rw [extract_data]; simp
def cur (s : ByteArray) (pos : Nat) : Option Nat → List UInt8
  | some a => sl s (a, pos)
  | none => []
theorem spans_fl (s : ByteArray) : ∀ (f pos : Nat) (st : Option Nat) (acc : List (Nat × Nat)), s.data.toList.length ≤ pos + f → pos ≤ s.data.toList.length → (∀ a, st = some a → a < pos) →
    (closeSpans s (spansFromP blankP s f pos st acc)).map (sl s) = acc.map (sl s) ++ fl (s.data.toList.drop pos) (cur s pos st) := by
  have hs : s.size = s.data.toList.length := by simp
  have base : ∀ (pos : Nat) (st : Option Nat) (acc : List (Nat × Nat)), pos = s.data.toList.length → (∀ a, st = some a → a < pos) → (closeSpans s (acc, st)).map (sl s) = acc.map (sl s) ++ fl (s.data.toList.drop pos) (cur s pos st) := by
    intro pos st acc hp ha
    rw [List.drop_eq_nil_of_le (by omega)]
    cases st with
    | none => simp [closeSpans, cur, fl]
    | some a =>
      have := sl_ne s a pos (ha a rfl) (by omega)
      have hf : fl [] (cur s pos (some a)) = [sl s (a, pos)] := by unfold fl; exact if_neg this
      rw [hf]
      simp only [closeSpans, List.map_append, List.map_cons, List.map_nil]
      rw [hs, ← hp]
  intro f
  induction f with
  | zero =>
    intro pos st acc h1 h2 h3
    exact base pos st acc (by omega) h3
  | succ f ih =>
    intro pos st acc h1 h2 h3
    by_cases hp : pos < s.size
    · have hr := rune_blank s pos (by omega)
      have hw := width_pos s pos
      unfold spansFromP
      rw [if_pos hp]
      cases hb : blankP (Utf8.decode s pos).1 with
      | true =>
        obtain ⟨hw1, c, t, hd, hc⟩ := hr.1 hb
        have hd2 : s.data.toList.drop (pos + 1) = t := by rw [← List.drop_drop, hd]; rfl
        rw [hw1, if_pos rfl]
        cases st with
        | none =>
          simp only
          rw [ih _ _ _ (by omega) (by omega) (fun a ha => by cases ha), hd2, hd]
          simp [cur, fl, hc]
        | some a =>
          have hne := sl_ne s a pos (h3 a rfl) h2
          simp only
          rw [ih _ _ _ (by omega) (by omega) (fun a ha => by cases ha), hd2, hd]
          simp [cur, fl, hc, hne]
      | false =>
        obtain ⟨hk, hy⟩ := hr.2 hb
        rw [if_neg (by decide)]
        have hcut : s.data.toList.drop pos = (s.data.toList.drop pos).take (Utf8.decode s pos).2 ++ s.data.toList.drop (pos + (Utf8.decode s pos).2) := by
          rw [← List.drop_drop, List.take_append_drop]
        cases st with
        | none =>
          simp only
          rw [ih _ _ _ (by omega) (by omega) (fun a ha => by cases ha; omega)]
          conv => rhs; rw [hcut, fl_skip _ _ _ hy]
          simp only [cur]
          rw [sl_snoc s pos pos _ (Nat.le_refl _), sl_self]
        | some a =>
          simp only
          rw [ih _ _ _ (by omega) (by omega) (fun b hb => by cases hb; have := h3 a rfl; omega)]
          conv => rhs; rw [hcut, fl_skip _ _ _ hy]
          simp only [cur]
          rw [sl_snoc s a pos _ (by have := h3 a rfl; omega)]
    · rw [spansFromP_end _ _ _ _ _ _ hp]
      exact base pos st acc (by omega) h3

theorem fields_eq (s : ByteArray) : (goFieldsP blankP s).map (·.data.toList) = fl s.data.toList [] := by
  have h := spans_fl s s.size 0 none [] (by simp) (by omega) (fun a ha => by cases ha)
  simp only [cur, List.map_nil, List.nil_append, List.drop_zero] at h
  unfold goFieldsP spansOfP
  rw [List.map_map]
  exact h
theorem fields_bytes (s : ByteArray) : goFieldsP blankP s = (fl s.data.toList []).map fun x => ⟨x.toArray⟩ := by
  rw [← fields_eq, List.map_map]
  symm
  have : ((fun x : List UInt8 => (⟨x.toArray⟩ : ByteArray)) ∘ fun x : ByteArray => x.data.toList) = id := by funext x; rfl
  rw [this, List.map_id]

/-! Lines. -/
theorem ln_free : ∀ (l t cur : List UInt8), (∀ y ∈ l, y ≠ 10) → ln (l ++ t) cur = ln t (cur ++ l)
  | [], t, cur, _ => by simp
  | y :: ys, t, cur, h => by
    rw [List.cons_append, ln, if_neg (h y (List.mem_cons_self ..)), ln_free ys t _ (fun z hz => h z (List.mem_cons_of_mem _ hz))]
    simp
theorem index_ten (l : List UInt8) : (index l [10] = -1 ∧ ∀ y ∈ l, y ≠ 10) ∨ ∃ a b, l = a ++ 10 :: b ∧ index l [10] = (a.length : Int) ∧ ∀ y ∈ a, y ≠ 10 := by
  induction l with
  | nil => exact .inl ⟨by simp [index], by simp⟩
  | cons c t ih =>
    by_cases hc : c = 10
    · subst hc
      exact .inr ⟨[], t, rfl, by rw [index]; simp [List.isPrefixOf], by simp⟩
    · have hp : ([10] : List UInt8).isPrefixOf (c :: t) = false := by simp [List.isPrefixOf, Ne.symm hc]
      have hix : index (c :: t) [10] = if index t [10] == -1 then -1 else index t [10] + 1 := by rw [index, hp]; simp
      rcases ih with ⟨h1, h2⟩ | ⟨a, b, rfl, h2, h3⟩
      · refine .inl ⟨by rw [hix, h1]; rfl, fun y hy => ?_⟩
        rcases List.mem_cons.1 hy with rfl | hy
        · exact hc
        · exact h2 y hy
      · refine .inr ⟨c :: a, b, rfl, ?_, fun y hy => ?_⟩
        · rw [hix, h2, if_neg (by simp)]; simp
        · rcases List.mem_cons.1 hy with rfl | hy
          · exact hc
          · exact h3 y hy
theorem split_ln : ∀ (k : Nat) (l : List UInt8), l.count 10 = k → splitK [10] 0 k l = ln l []
  | k, l, hk => by
    rcases index_ten l with ⟨h1, h2⟩ | ⟨a, b, rfl, h2, h3⟩
    · have h0 : l.count 10 = 0 := List.count_eq_zero.2 (fun h => h2 _ h rfl)
      have hl : ln l [] = [l] := by
        have := ln_free l [] [] h2
        rw [List.append_nil] at this
        rw [this]; rfl
      rw [hl]
      cases k with
      | zero => rfl
      | succ k => omega
    · have hca : a.count 10 = 0 := List.count_eq_zero.2 (fun h => h3 _ h rfl)
      rw [List.count_append, hca, List.count_cons_self] at hk
      cases k with
      | zero => omega
      | succ k =>
        rw [splitK, h2, if_neg (by simp), ln_free a _ _ h3]
        simp only [ln, if_true, Int.toNat_natCast, List.length_cons, List.length_nil]
        rw [List.take_append_of_le_length (by omega), Nat.add_zero, List.take_length, List.drop_append, List.drop_eq_nil_of_le (by omega), show a.length + (0 + 1) - a.length = 1 by omega]
        simp only [List.nil_append, List.drop_succ_cons, List.drop_zero]
        rw [split_ln k b (by omega)]
termination_by k => k
abbrev nl : ByteArray := ⟨#[10]⟩
theorem lines_eq (s : ByteArray) : (splitB nl 0 (countB s nl) s).map (·.data.toList) = ln s.data.toList [] := by
  rw [splitB_data]
  exact split_ln _ _ (count_one 10 _).symm
theorem ln_len : ∀ (l cur : List UInt8), (ln l cur).length ≤ l.length + 1 ∧ ∀ x ∈ ln l cur, x.length ≤ cur.length + l.length
  | [], cur => by simp [ln]
  | c :: t, cur => by
    unfold ln
    have h1 := ln_len t []
    have h2 := ln_len t (cur ++ [c])
    simp only [List.length_append, List.length_cons, List.length_nil] at *
    split
    · refine ⟨by simp only [List.length_cons]; omega, fun x hx => ?_⟩
      rcases List.mem_cons.1 hx with rfl | hx
      · omega
      · have := h1.2 x hx; omega
    · exact ⟨by omega, fun x hx => by have := h2.2 x hx; omega⟩
end Go.Proofs.YtibakeahgcakmaaGreatDoor
