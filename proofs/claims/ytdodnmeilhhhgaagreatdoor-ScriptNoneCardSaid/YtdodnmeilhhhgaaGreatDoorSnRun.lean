/- THE LAW 'ScriptNone', RUN BY THE ABSTRACT MACHINE from whatever argument, to its end: true. No condition. -/
import Derived.Test.YtdodnmeilhhhgaaGreatDoorAmLaw
import Derived.Test.YtdodnmeilhhhgaaGreatDoorProg
import Derived.KernelRfl
noncomputable section
namespace Go.Proofs.YtdodnmeilhhhgaaGreatDoor
open AM
theorem scriptNone_run : isTrue (acall Tryz.prog noNat 200 4 [.undef] (bareSt Tryz.prog)) = true := by kernel_rfl
end Go.Proofs.YtdodnmeilhhhgaaGreatDoor
