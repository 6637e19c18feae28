/- NodeForms answers true, whatever the input: run by the kernel. -/
import Derived.Test.YtbnieocmjafidaaGreatBase
namespace Go.Proofs.YtbnieocmjafidaaGreat
open Go.Ab
def anyN : AV := .rng .i64 (-9223372036854775808) 9223372036854775807
theorem node_runs : (level Tryz.prog entB 200).call 3 [anyN, anyN] H0 (fun v _ => isTrue v) = true := by kernel_rfl
end Go.Proofs.YtbnieocmjafidaaGreat
