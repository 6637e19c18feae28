/- ConsoleBegins: the walk. -/
import Derived.Test.YtibakeahgcakmaaGreatDoorVAwake
set_option linter.unusedVariables false
set_option linter.unusedSimpArgs false
namespace Go.Proofs.YtibakeahgcakmaaGreatDoor
open Go.Shelf Go.RowKit Go.Proofs.YtibakeahgcakmaaGreatDoorW.PrintWords Go.Proofs.YtibakeahgcakmaaGreatDoorW.PrintLast Go.Proofs.YtibakeahgcakmaaGreatDoorW.PrintMore PF Curve

theorem ln_app : ∀ (l r cur : List UInt8), ln (l ++ 10 :: r) cur = ln l cur ++ ln r []
  | [], r, cur => by simp [ln]
  | c :: t, r, cur => by
    rw [List.cons_append, ln, ln]
    by_cases h : c = 10
    · rw [if_pos h, if_pos h, ln_app t r []]; rfl
    · rw [if_neg h, if_neg h, ln_app t r _]
theorem runL_app (l r : List UInt8) : runL (l ++ 10 :: r) = runL l ++ runL r := by
  unfold runL; rw [ln_app, List.flatMap_append]
end Go.Proofs.YtibakeahgcakmaaGreatDoor
