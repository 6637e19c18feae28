/- ConsoleBegins: the walk. -/
import Derived.Test.YtibakeahgcakmaaGreatDoorXAwake
set_option linter.unusedVariables false
set_option linter.unusedSimpArgs false
namespace Go.Proofs.YtibakeahgcakmaaGreatDoor
open Go.Shelf Go.RowKit Go.Proofs.YtibakeahgcakmaaGreatDoorW.PrintWords Go.Proofs.YtibakeahgcakmaaGreatDoorW.PrintLast Go.Proofs.YtibakeahgcakmaaGreatDoorW.PrintMore PF Curve

theorem ln_app : ∀ (l r cur : List UInt8), ln (l ++ 10 :: r) cur = ln l cur ++ ln r []
  | [], r, cur => by simp [ln]
  | c :: t, r, cur => by
    rw [List.cons_append, ln, ln]
    by_cases h : c = 10
    · rw [if_pos h, if_pos h, ln_app t r []]; rfl
    · rw [if_neg h, if_neg h, ln_app t r _]
theorem runL_app (l r : List UInt8) : runL (l ++ 10 :: r) = runL l ++ runL r := by
  unfold runL; rw [ln_app, List.flatMap_append]
theorem runL_nil : runL [] = [] := by
  show lineL [] ++ [] = []
  rw [aw_empty]; rfl
/-- What Run answers, at any text. -/
def runS (s : ByteArray) : ByteArray × Int := if s.size ≤ 65536 then (⟨(runL s.data.toList).toArray⟩, 0) else (⟨#[]⟩, 2501)
theorem run_any (s : ByteArray) (hs : s.size ≤ 9000000000000000000) (w : World) (he : Env w) :
    Calls Tryz.prog 8 #[.string s] w fun e w' => e = .returned (.tuple #[.string (runS s).1, .int .i64 (runS s).2]) ∧ Below w.heap.size w w' := by
  unfold runS
  by_cases h : s.size ≤ 65536
  · rw [if_pos h]; exact run_calls s h w he
  · rw [if_neg h]; exact run_long s (by omega) hs w
end Go.Proofs.YtibakeahgcakmaaGreatDoor
