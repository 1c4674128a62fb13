/- Part 16 of the proof: OverlayNil returns true at every operation and leaves its argument as it was (the tied card, no condition). -/
import Derived.KernelRfl
import Derived.Test.YtjamfnaepkheeaaGreatDoorB13
import Derived.Test.YtjamfnaepkheeaaGreatDoorB02

/- AE: calls that ask nothing of the heap, and what they come to: by the kernel. -/
namespace Go.Proofs.AeT
open Go Go.AE
noncomputable section
end
theorem AeB_g1 : entsB cfg AeB_t0 10000 60 AeB_e1 = true := by kernel_rfl
end Go.Proofs.AeT
