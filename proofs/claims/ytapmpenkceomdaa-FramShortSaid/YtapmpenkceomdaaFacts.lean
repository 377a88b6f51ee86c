/- What a row asks of the whole program, once for all rows of the seat: each fact by itself. -/
import Derived.Test.YtapmpenkceomdaaRows
import Derived.Test.YtapmpenkceomdaaChecked
import Derived.JoinedOf
import Derived.KernelRfl
set_option linter.unusedSimpArgs false
set_option linter.unusedVariables false
set_option maxRecDepth 20000
namespace Go.Proofs.Ytapmpenkceomdaa.facts
theorem laid : laidOutB Try.prog = true := by kernel_rfl
theorem rowed : mapsRowed Try.prog = true := by kernel_rfl
theorem stops : Try.prog.stops = [] := by kernel_rfl
theorem knobs : Try.prog.stopKnobs = [] := by kernel_rfl
theorem keys : Try.prog.plainKeys = true := by kernel_rfl
theorem heard : Try.prog.stopsHeard = true := by kernel_rfl
theorem mixed : Try.prog.follows .mixedOrders = true := by kernel_rfl
end Go.Proofs.Ytapmpenkceomdaa.facts
