/- What a row asks of the whole program: it may be entered. -/
import Derived.Test.YtapmpenkceomdaaRows
import Derived.Test.YtapmpenkceomdaaChecked
import Derived.JoinedOf
import Derived.KernelRfl
namespace Go.Proofs.Ytapmpenkceomdaa.facts
theorem enter : Try.prog.mayEnter = true := by kernel_rfl
end Go.Proofs.Ytapmpenkceomdaa.facts
