/- CLOSED FACTS OF THE PROGRAM, each by the kernel, each a theorem of its own. No condition. -/
import Derived.Test.YtdodnmeilhhhgaaGreatDoorFacts
import Derived.SevenTiedAt
noncomputable section
namespace Go.Proofs.YtdodnmeilhhhgaaGreatDoor
theorem plainKeys' : Tryz.prog.plainKeys = true := by kernel_rfl
theorem looks' : Tryz.prog.looks [] = true := by kernel_rfl
end Go.Proofs.YtdodnmeilhhhgaaGreatDoor
