/- CLOSED FACTS OF THE PROGRAM, each by the kernel, each a theorem of its own. No condition. -/
import Derived.Test.YtdodnmeilhhhgaaGreatDoorFacts
noncomputable section
namespace Go.Proofs.YtdodnmeilhhhgaaGreatDoor
theorem heard' : Tryz.prog.stopsHeard = true := by kernel_rfl
theorem mayEnter' : Tryz.prog.mayEnter = true := by kernel_rfl
end Go.Proofs.YtdodnmeilhhhgaaGreatDoor
