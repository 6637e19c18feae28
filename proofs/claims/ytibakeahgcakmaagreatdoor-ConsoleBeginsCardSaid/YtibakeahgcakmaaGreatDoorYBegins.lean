/- ConsoleBegins: the walk. -/
import Derived.Test.YtibakeahgcakmaaGreatDoorYAwake
set_option linter.unusedVariables false
set_option linter.unusedSimpArgs false
namespace Go.Proofs.YtibakeahgcakmaaGreatDoor
open Go.Shelf Go.RowKit Go.Proofs.YtibakeahgcakmaaGreatDoorW.PrintWords Go.Proofs.YtibakeahgcakmaaGreatDoorW.PrintLast Go.Proofs.YtibakeahgcakmaaGreatDoorW.PrintMore PF Curve

theorem ln_app : ∀ (l r cur : List UInt8), ln (l ++ 10 :: r) cur = ln l cur ++ ln r []
  | [], r, cur => by simp [ln]
  | c :: t, r, cur => by
    rw [List.cons_append, ln, ln]
    by_cases h : c = 10
    · rw [if_pos h, if_pos h, ln_app t r []]; rfl
    · rw [if_neg h, if_neg h, ln_app t r _]
theorem runL_app (l r : List UInt8) : runL (l ++ 10 :: r) = runL l ++ runL r := by
  unfold runL; rw [ln_app, List.flatMap_append]
theorem runL_nil : runL [] = [] := by
  show lineL [] ++ [] = []
  rw [aw_empty]; rfl
theorem runL_nl (l : List UInt8) : runL (l ++ [10]) = runL l := by rw [runL_app, runL_nil, List.append_nil]
/-- What Run answers, at any text. -/
def runS (s : ByteArray) : ByteArray × Int := if s.size ≤ 65536 then (⟨(runL s.data.toList).toArray⟩, 0) else (⟨#[]⟩, 2501)
theorem run_any (s : ByteArray) (hs : s.size ≤ 9000000000000000000) (w : World) (he : Env w) :
    Calls Tryz.prog 8 #[.string s] w fun e w' => e = .returned (.tuple #[.string (runS s).1, .int .i64 (runS s).2]) ∧ Below w.heap.size w w' := by
  unfold runS
  by_cases h : s.size ≤ 65536
  · rw [if_pos h]; exact run_calls s h w he
  · rw [if_neg h]; exact run_long s (by omega) hs w
theorem bytes_ext (a b : ByteArray) (h : a.data.toList = b.data.toList) : a = b := by
  cases a; cases b; congr; exact Array.toList_inj.1 h
/-- Of two texts the one begins the other. -/
theorem begins_facts (A R : ByteArray) (h : (A ++ (⟨#[10]⟩ : ByteArray) ++ R).size ≤ 65536) :
    (runS (A ++ (⟨#[10]⟩ : ByteArray))).2 = 0 ∧ (runS (A ++ (⟨#[10]⟩ : ByteArray) ++ R)).2 = 0 ∧ (runS (A ++ (⟨#[10]⟩ : ByteArray))).1.size ≤ (runS (A ++ (⟨#[10]⟩ : ByteArray) ++ R)).1.size ∧
    (runS (A ++ (⟨#[10]⟩ : ByteArray) ++ R)).1.extract 0 (runS (A ++ (⟨#[10]⟩ : ByteArray))).1.size = (runS (A ++ (⟨#[10]⟩ : ByteArray))).1 := by
  have h1 : (A ++ (⟨#[10]⟩ : ByteArray)).size ≤ 65536 := by rw [ByteArray.size_append] at h; omega
  have e1 : (A ++ (⟨#[10]⟩ : ByteArray)).data.toList = A.data.toList ++ [10] := by rw [ByteArray.data_append, Array.toList_append]
  have e2 : (A ++ (⟨#[10]⟩ : ByteArray) ++ R).data.toList = A.data.toList ++ 10 :: R.data.toList := by rw [ByteArray.data_append, Array.toList_append, e1, List.append_assoc]; rfl
  unfold runS
  rw [if_pos h, if_pos h1, e1, e2, runL_nl, runL_app]
  refine ⟨rfl, rfl, ?_, ?_⟩
  · show (List.toArray _).size ≤ (List.toArray _).size
    simp
  · apply bytes_ext
    rw [Lib.extract_data]
    show ((_ ++ _ : List UInt8).drop 0).take ((List.toArray _).size - 0) = _
    simp

set_option maxHeartbeats 4000000 in
set_option maxRecDepth 100000 in
theorem begins_calls (A R : ByteArray) (hA : A.size ≤ 1000000000000000000) (hR : R.size ≤ 1000000000000000000) (w : World) (he : Env w) : Calls Tryz.prog 4 #[.string A, .string R] w fun e w' => e = .returned (.bool true) ∧ Below w.heap.size w w' := by
  have z1 : (A ++ (⟨#[10]⟩ : ByteArray)).size = A.size + 1 := by rw [ByteArray.size_append]; rfl
  have z2 : (A ++ (⟨#[10]⟩ : ByteArray) ++ R).size = A.size + 1 + R.size := by rw [ByteArray.size_append, z1]
  have r1 := Aside0.mk (run_any (A ++ (⟨#[10]⟩ : ByteArray)) (by omega))
  have r2 := Aside0.mk (run_any (A ++ (⟨#[10]⟩ : ByteArray) ++ R) (by omega))
  have n1 : ¬ 9223372036854775807 < A.size + 1 := by omega
  have n2 : ¬ 9223372036854775807 < A.size + 1 + R.size := by omega
  by_cases h : (A ++ (⟨#[10]⟩ : ByteArray) ++ R).size ≤ 65536
  · obtain ⟨f1, f2, f3, f4⟩ := begins_facts A R h
    generalize runS (A ++ (⟨#[10]⟩ : ByteArray)) = p1 at *
    generalize runS (A ++ (⟨#[10]⟩ : ByteArray) ++ R) = p2 at *
    obtain ⟨S, e1⟩ := p1
    obtain ⟨T, e2⟩ := p2
    simp only at f1 f2 f3 f4 r1 r2
    subst f1 f2
    clear h
    have f5 : (S.size : Int) ≤ (T.size : Int) := by omega
    go_enter Tryz.func4, Tryz.ntmps4
    go_wp2_with (first
      | (go_at_call 10; (with_reducible refine (awake_calls _ he).mono ?_); rintro e w1 ⟨rfl, hb1⟩)
      | (go_at_call 8; first
          | ((with_reducible refine (r1.out _ (he.below hb1)).mono ?_); rintro e w2 ⟨rfl, hb2'⟩; have hb2 := below_step hb1 hb2'; clear hb2')
          | ((with_reducible refine (r2.out _ (he.below hb2)).mono ?_); rintro e w3 ⟨rfl, hb3'⟩; have hb3 := below_step hb2 hb3'; clear hb3'))
      | (go_at_call 9; first
          | ((with_reducible refine (furlonglaw0_Num.calls 0 0 w3 (num_eq 0)).mono ?_); rintro e w4 ⟨rfl, hdr⟩; have hb4 := below_step hb3 hdr.below; clear hdr)
          | ((with_reducible refine (furlonglaw0_Num.calls 0 0 _ (num_eq 0)).mono ?_); rintro e w5 ⟨rfl, hdr⟩; have hb5 := below_step hb4 hdr.below; clear hdr)))
    go_ret
    exact ⟨by simp, hb5⟩
  · have f2 : runS (A ++ (⟨#[10]⟩ : ByteArray) ++ R) = (⟨#[]⟩, 2501) := if_neg h
    rw [f2] at r2
    simp only at r2
    generalize runS (A ++ (⟨#[10]⟩ : ByteArray)) = p1 at *
    obtain ⟨S, e1⟩ := p1
    simp only at r1
    have h9 : (65536 : Int) < (A.size : Int) + 1 + (R.size : Int) := by omega
    clear h
    go_enter Tryz.func4, Tryz.ntmps4
    go_wp2_with (first
      | (go_at_call 10; (with_reducible refine (awake_calls _ he).mono ?_); rintro e w1 ⟨rfl, hb1⟩)
      | (go_at_call 8; first
          | ((with_reducible refine (r1.out _ (he.below hb1)).mono ?_); rintro e w2 ⟨rfl, hb2'⟩; have hb2 := below_step hb1 hb2'; clear hb2')
          | ((with_reducible refine (r2.out _ (he.below hb2)).mono ?_); rintro e w3 ⟨rfl, hb3'⟩; have hb3 := below_step hb2 hb3'; clear hb3'))
      | (go_at_call 9; first
          | ((with_reducible refine (furlonglaw0_Num.calls 2501 2501 w3 (num_eq 2501)).mono ?_); rintro e w4 ⟨rfl, hdr⟩; have hb4 := below_step hb3 hdr.below; clear hdr)
          | ((with_reducible refine (furlonglaw0_Num.calls 2501 2501 _ (num_eq 2501)).mono ?_); rintro e w5 ⟨rfl, hdr⟩; have hb5 := below_step hb4 hdr.below; clear hdr)))
    go_ret
    exact ⟨by simp, hb5⟩
end Go.Proofs.YtibakeahgcakmaaGreatDoor
