/- BlobForms: three of the cases, whatever the number's other bits. -/
import Derived.Test.YtapmpenkceomdaaBfA
namespace Go.Proofs.Ytapmpenkceomdaa.blobForms
theorem c0 (a : Int) : saysTrue (rest a 0) = true := by kernel_rfl
theorem c1 (a : Int) : saysTrue (rest a 1) = true := by kernel_rfl
theorem c2 (a : Int) : saysTrue (rest a 2) = true := by kernel_rfl
end Go.Proofs.Ytapmpenkceomdaa.blobForms
