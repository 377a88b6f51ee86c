/- What a row asks of the whole program: what is lifted. -/
import Derived.Test.YtapmpenkceomdaaRows
import Derived.Test.YtapmpenkceomdaaChecked
import Derived.JoinedOf
import Derived.KernelRfl
set_option linter.unusedSimpArgs false
set_option linter.unusedVariables false
set_option maxRecDepth 20000
namespace Go.Proofs.Ytapmpenkceomdaa.facts
theorem lifted : Try.prog.liftsFinal = Rows.blobFormsRow.lifted := by kernel_rfl
end Go.Proofs.Ytapmpenkceomdaa.facts
