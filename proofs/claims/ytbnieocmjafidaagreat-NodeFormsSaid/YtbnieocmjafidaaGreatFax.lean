/- Closed facts of the whole program, which every row asks for: run by the kernel. -/
import Derived.Test.YtbnieocmjafidaaGreatKit
namespace Go.Proofs.YtbnieocmjafidaaGreat

theorem fax_laid : laidOutB Tryz.prog = true := by kernel_rfl
theorem fax_maps : mapsRowed Tryz.prog = true := by kernel_rfl
theorem fax_keys : Tryz.prog.plainKeys = false := by kernel_rfl
theorem fax_heard : Tryz.prog.stopsHeard = true := by kernel_rfl
theorem fax_stops : Tryz.prog.stops = [] := by kernel_rfl
theorem fax_knobs : Tryz.prog.stopKnobs = [] := by kernel_rfl

end Go.Proofs.YtbnieocmjafidaaGreat
