/- awake() answers true: run by the kernel. -/
import Derived.Test.YtbnieocmjafidaaGreatBase
namespace Go.Proofs.YtbnieocmjafidaaGreat
open Go.Ab
theorem awake_runs : AwakeRuns := by
  unfold AwakeRuns
  kernel_rfl
end Go.Proofs.YtbnieocmjafidaaGreat
