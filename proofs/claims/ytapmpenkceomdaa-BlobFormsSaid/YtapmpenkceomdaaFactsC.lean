/- What a row asks of the whole program: what is lifted. -/
import Derived.Test.YtapmpenkceomdaaRows
import Derived.Test.YtapmpenkceomdaaChecked
import Derived.JoinedOf
import Derived.KernelRfl
namespace Go.Proofs.Ytapmpenkceomdaa.facts
theorem lifted : Try.prog.liftsFinal = Rows.blobFormsRow.lifted := by kernel_rfl
end Go.Proofs.Ytapmpenkceomdaa.facts
