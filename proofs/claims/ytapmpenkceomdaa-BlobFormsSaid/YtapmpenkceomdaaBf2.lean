/- BlobForms: three of the cases, whatever the number's other bits. -/
import Derived.Test.YtapmpenkceomdaaBfA
namespace Go.Proofs.Ytapmpenkceomdaa.blobForms
theorem c6 (a : Int) : saysTrue (rest a 6) = true := by kernel_rfl
theorem c7 (a : Int) : saysTrue (rest a 7) = true := by kernel_rfl
theorem c8 (a : Int) : saysTrue (rest a 8) = true := by kernel_rfl
end Go.Proofs.Ytapmpenkceomdaa.blobForms
