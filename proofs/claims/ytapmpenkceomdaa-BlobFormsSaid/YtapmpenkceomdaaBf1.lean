/- BlobForms: three of the cases, whatever the number's other bits. -/
import Derived.Test.YtapmpenkceomdaaBfA
namespace Go.Proofs.Ytapmpenkceomdaa.blobForms
theorem c3 (a : Int) : saysTrue (rest a 3) = true := by kernel_rfl
theorem c4 (a : Int) : saysTrue (rest a 4) = true := by kernel_rfl
theorem c5 (a : Int) : saysTrue (rest a 5) = true := by kernel_rfl
end Go.Proofs.Ytapmpenkceomdaa.blobForms
