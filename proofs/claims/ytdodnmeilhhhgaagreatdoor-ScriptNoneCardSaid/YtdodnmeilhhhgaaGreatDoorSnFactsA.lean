/- CLOSED FACTS OF THE ROW 'ScriptNone', by the kernel. No condition. -/
import Derived.Test.YtdodnmeilhhhgaaGreatDoorFacts
noncomputable section
namespace Go.Proofs.YtdodnmeilhhhgaaGreatDoor
theorem sn_inPlace : (Rows.scriptNoneRow.inPlace == Tryz.prog.inPlace 4) = true := by kernel_rfl
theorem sn_unfollowed : (Rows.scriptNoneRow.unfollowed == Tryz.prog.unfollowed 4) = true := by kernel_rfl
end Go.Proofs.YtdodnmeilhhhgaaGreatDoor
