/- CLOSED FACTS OF THE ROW 'ScriptNone', by the kernel. No condition. -/
import Derived.Test.YtdodnmeilhhhgaaGreatDoorFacts
noncomputable section
namespace Go.Proofs.YtdodnmeilhhhgaaGreatDoor
theorem sn_recurses : (Rows.scriptNoneRow.recurses == Tryz.prog.recurses 4) = true := by kernel_rfl
theorem sn_named : (Rows.scriptNoneRow.named == Tryz.prog.varsNamed 4) = true := by kernel_rfl
end Go.Proofs.YtdodnmeilhhhgaaGreatDoor
