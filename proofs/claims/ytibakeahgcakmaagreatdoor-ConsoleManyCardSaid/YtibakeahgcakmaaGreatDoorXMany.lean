/- ConsoleMany: the walk. -/
import Derived.Test.YtibakeahgcakmaaGreatDoorXBegins
set_option linter.unusedVariables false
set_option linter.unusedSimpArgs false
namespace Go.Proofs.YtibakeahgcakmaaGreatDoor
open Go.Shelf Go.RowKit Go.Proofs.YtibakeahgcakmaaGreatDoorW.PrintWords Go.Proofs.YtibakeahgcakmaaGreatDoorW.PrintLast Go.Proofs.YtibakeahgcakmaaGreatDoorW.PrintMore PF Curve

def manyB : List ByteArray := [⟨#[116, 117, 114, 110, 32, 48, 32, 48, 32, 53, 32, 53, 32, 57, 32, 49]⟩, ⟨#[99, 114, 111, 115, 115, 32, 48, 32, 48, 32, 57, 32, 57, 32, 51, 32, 51, 32, 52, 32, 52]⟩,
  ⟨#[99, 117, 114, 118, 101, 32, 54, 53, 53, 51, 54, 32, 48]⟩, ⟨#[112, 108, 97, 99, 101, 32, 52, 50, 57, 52, 57, 54, 55, 50, 57, 53]⟩,
  ⟨#[99, 111, 118, 101, 114, 32, 48, 32, 48, 32, 52, 50, 57, 52, 57, 54, 55, 50, 57, 53, 32, 52, 50, 57, 52, 57, 54, 55, 50, 57, 53]⟩,
  ⟨#[111, 119, 110, 101, 114, 32, 51, 32, 50, 56, 54, 51, 51, 49, 49, 53, 51, 49]⟩, ⟨#[35, 32, 99]⟩, ⟨#[102, 114, 111, 98]⟩, ⟨#[111, 119, 110, 101, 114, 32, 57, 32, 48]⟩]
theorem runL_len (l : List UInt8) : (runL l).length ≤ (l.length + 1) * 301 := by
  have h1 := flat_len (ln l [])
  have h2 := (ln_len l []).1
  have : (ln l []).length * 301 ≤ (l.length + 1) * 301 := Nat.mul_le_mul_right _ h2
  unfold runL
  exact Nat.le_trans h1 this
theorem many_facts (m : Nat) (hm : m < 9) : ∃ X : ByteArray, manyB[m]? = some X ∧ X.size ≤ 100 := by
  have h : ∀ X ∈ manyB, X.size ≤ 100 := by decide +kernel
  have hl : m < manyB.length := hm
  exact ⟨manyB[m], List.getElem?_eq_getElem hl, h _ (List.getElem_mem _)⟩
/-- What the loop keeps of its two texts. -/
def Both (S W : ByteArray) (i : Nat) : Prop := (∀ r, runL (S.data.toList ++ r) = W.data.toList ++ runL r) ∧ S.size ≤ i * 200 ∧ W.size ≤ i * 100000
theorem both_nil : Both ⟨#[]⟩ ⟨#[]⟩ 0 := ⟨fun r => rfl, by decide, by decide⟩
theorem both_step (S W X : ByteArray) (i : Nat) (h : Both S W i) (hX : X.size ≤ 100) : Both (S ++ X ++ (⟨#[10]⟩ : ByteArray)) (W ++ (runS X).1) (i + 1) := by
  obtain ⟨h1, h2, h3⟩ := h
  have e1 : (runS X).1 = ⟨(runL X.data.toList).toArray⟩ := by unfold runS; rw [if_pos (by omega)]
  have z : (⟨#[10]⟩ : ByteArray).size = 1 := rfl
  refine ⟨fun r => ?_, ?_, ?_⟩
  · rw [e1, ByteArray.data_append, ByteArray.data_append, ByteArray.data_append, Array.toList_append, Array.toList_append, Array.toList_append]
    show runL (S.data.toList ++ X.data.toList ++ [10] ++ r) = W.data.toList ++ runL X.data.toList ++ runL r
    rw [List.append_assoc, List.append_assoc, h1]
    show _ ++ runL (X.data.toList ++ 10 :: r) = _
    rw [runL_app, List.append_assoc]
  · rw [ByteArray.size_append, ByteArray.size_append, z]; omega
  · rw [ByteArray.size_append, e1]
    have := runL_len X.data.toList
    have e : X.data.toList.length = X.size := by simp
    show _ + (List.toArray _).size ≤ _
    rw [List.size_toArray]
    omega
theorem both_end (S W : ByteArray) (i : Nat) (h : Both S W i) (hi : i ≤ 30) : runS S = (W, 0) := by
  obtain ⟨h1, h2, h3⟩ := h
  have h4 := h1 []
  rw [runL_nil, List.append_nil, List.append_nil] at h4
  unfold runS
  rw [if_pos (by omega), h4]

set_option maxHeartbeats 4000000 in
set_option maxRecDepth 100000 in
theorem many_calls (A : Option Addr) (c : Nat) (l : List Int) (w : World) (he : Env w) (hr : 0 < l.length → ∃ ad, A = some ad ∧ ∀ j, j < l.length → w.cell? (ad.add j) = some (.int .i64 (l.getD j 0))) (hl : l.length ≤ 1000000000000000000) :
    Calls Tryz.prog 6 #[.slice A l.length c] w fun e w' => e = .returned (.bool true) ∧ Below w.heap.size w w' := by
  have HR := Aside0.mk hr
  clear hr
  generalize hn : l.length = n at *
  go_enter Tryz.func6, Tryz.ntmps6
  go_wp2_with (first
    | (go_at_call 10; (with_reducible refine (awake_calls _ he).mono ?_); rintro e w1 ⟨rfl, hb1⟩))
  have hA := below_alloc hb1 (.cells (manyB.map Value.string).toArray 9)
  have hK : ∀ m X, manyB[m]? = some X → (w1.alloc (.cells (manyB.map Value.string).toArray 9)).cell? ⟨w1.heap.size, m, none⟩ = some (.string X) := by
    intro m X hX
    rw [Lib.cell_of_heap (heap_alloc_new w1 _)]
    simp [hX]
  change Code.wp _ _ _ _ (w1.alloc (.cells (manyB.map Value.string).toArray 9))
  have HK := Aside0.mk hK
  clear hK
  generalize w1.alloc (.cells (manyB.map Value.string).toArray 9) = wA at *
  have HA := Aside0.mk hA
  clear hA
  go_loopw [4, 5, 6] (fun s4 s5 s6 wr => ∃ (i : Nat) (S W : ByteArray), i ≤ 30 ∧ Aside0 (i ≤ n) ∧ s4 = .string S ∧ s5 = .string W ∧ s6 = .int .i64 (i : Int) ∧ Aside0 (Both S W i) ∧ Aside0 (Below wA.heap.size wA wr)) (fun _ _ s6 _ => 30 - (intOf s6).toNat)
  case atStart => exact ⟨0, _, _, by omega, ⟨Nat.zero_le _⟩, rfl, rfl, rfl, ⟨both_nil⟩, ⟨Below.refl _ _⟩⟩
  case round =>
    obtain ⟨i, S, W, hi30, Hi, rfl, rfl, rfl, HB, HW⟩ := hrel
    by_cases hlt : i < n ∧ i < 30
    · obtain ⟨h1, h2⟩ := hlt
      obtain ⟨ad, rfl, hcs⟩ := HR.out (by omega)
      have hcell := hcs i h1
      clear hcs
      have hc2 := pw_cell_below HW.out (pw_cell_below HA.out hcell)
      generalize l.getD i 0 = v at *
      obtain ⟨m, hm, hq⟩ : ∃ m : Nat, m < 9 ∧ wrap64 ((IntKind.u64.wrap v).tmod 9) = (m : Int) := by
        have h0 : 0 ≤ IntKind.u64.wrap v := by rw [IntKind.wrap_u64]; omega
        rw [Int.tmod_eq_emod_of_nonneg h0]
        refine ⟨(IntKind.u64.wrap v % 9).toNat, by omega, ?_⟩
        rw [w64 _ (by omega) (by omega)]
        omega
      obtain ⟨X, hX, hXs⟩ := many_facts m hm
      have hk := pw_cell_below HW.out (HK.out m X hX)
      have g1 : (i : Int) < (n : Int) := by omega
      have g2 : (i : Int) < 30 := by omega
      have g3 : (m : Int) < 9 := by omega
      have z1 : (S ++ X).size = S.size + X.size := by rw [ByteArray.size_append]
      have hb := HB.out
      have z2 : S.size ≤ 6000 := by have := hb.2.1; omega
      have z3 : W.size ≤ 3000000 := by have := hb.2.2; omega
      have hXr := run_any X (by omega)
      have hst := both_step S W X i hb hXs
      have e2 : (runS X).2 = 0 := by unfold runS; rw [if_pos (by omega)]
      have zX : (runS X).1.size ≤ 100000 := by
        unfold runS; rw [if_pos (by omega)]
        have := runL_len X.data.toList
        have e : X.data.toList.length = X.size := by simp
        show (List.toArray _).size ≤ _
        rw [List.size_toArray]
        omega
      generalize runS X = rX at *
      obtain ⟨T, e⟩ := rX
      simp only at e2 hXr hst zX
      subst e2
      have HX := Aside0.mk hXr
      have HS := Aside0.mk hst
      clear hXr hst hb hX hcell
      go_wp2_with (first
        | (go_at_call 8; (with_reducible refine (HX.out _ ((he.below HA.out).below HW.out)).mono ?_); rintro e w3 ⟨rfl, hb3⟩)
        | (go_at_call 9; (with_reducible refine (furlonglaw0_Num.calls 0 0 _ (num_eq 0)).mono ?_); rintro e w4 ⟨rfl, hdr⟩; have hb4 := below_step hb3 hdr.below; clear hdr))
      have hW4 : Aside0 (Below wA.heap.size wA w4) := ⟨below_step HW.out hb4⟩
      go_roundw
      case rel => exact ⟨i + 1, S ++ X ++ (⟨#[10]⟩ : ByteArray), W ++ T, by omega, ⟨by omega⟩, rfl, rfl, by go_num, HS, hW4⟩
      case measure => simp [intOf]; omega
    · have hXr := run_any S (by have := HB.out.2.1; omega)
      rw [both_end S W i HB.out hi30] at hXr
      simp only at hXr
      have HX := Aside0.mk hXr
      clear hXr
      by_cases h1 : i < n
      · have h2 : i = 30 := by omega
        subst h2
        have g1 : (30 : Int) < (n : Int) := by omega
        clear hlt
        go_wp2_with (first
          | (go_at_call 8; (with_reducible refine (HX.out _ ((he.below HA.out).below HW.out)).mono ?_); rintro e w3 ⟨rfl, hb3⟩)
          | (go_at_call 9; (with_reducible refine (furlonglaw0_Num.calls 0 0 _ (num_eq 0)).mono ?_); rintro e w4 ⟨rfl, hdr⟩; have hb4 := below_step hb3 hdr.below; clear hdr))
        go_ret
        exact ⟨by simp, below_step (below_step HA.out HW.out) hb4⟩
      · have g1 : ¬ ((i : Int) < (n : Int)) := by omega
        clear hlt
        go_wp2_with (first
          | (go_at_call 8; (with_reducible refine (HX.out _ ((he.below HA.out).below HW.out)).mono ?_); rintro e w3 ⟨rfl, hb3⟩)
          | (go_at_call 9; (with_reducible refine (furlonglaw0_Num.calls 0 0 _ (num_eq 0)).mono ?_); rintro e w4 ⟨rfl, hdr⟩; have hb4 := below_step hb3 hdr.below; clear hdr))
        go_ret
        exact ⟨by simp, below_step (below_step HA.out HW.out) hb4⟩
end Go.Proofs.YtibakeahgcakmaaGreatDoor
