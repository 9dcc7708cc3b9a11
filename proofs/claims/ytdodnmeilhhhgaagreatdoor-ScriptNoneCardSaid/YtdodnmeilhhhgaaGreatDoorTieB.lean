/- THE PROGRAM's TIE, ITS CLOSED FACTS, each a theorem of its own. No condition. -/
import Derived.Test.YtdodnmeilhhhgaaGreatDoorTieA
noncomputable section
namespace Go.Proofs.YtdodnmeilhhhgaaGreatDoor
theorem tie_hd : ∀ os tape, varsDone Tryz.prog 400 (varsId Tryz.prog) os tape = true := fun _ _ => by kernel_rfl
theorem tie_h1 : ∀ os tape, (DataW.laidRun Tryz.prog (varsWorld Tryz.prog 400 (varsId Tryz.prog) os tape).memory 8 (laidList.map (·.1))).map (·.1) = some laidList := fun _ _ => by kernel_rfl
theorem tie_h2 : ∀ os tape, (DataW.laidRun Tryz.prog (varsWorld Tryz.prog 400 (varsId Tryz.prog) os tape).memory 8 (laidList.map (·.1))).map (fun x => decide x.2.Nodup && laidRowsB Tryz.prog (varsWorld Tryz.prog 400 (varsId Tryz.prog) os tape).memory x.2) = some true := fun _ _ => by kernel_rfl
end Go.Proofs.YtdodnmeilhhhgaaGreatDoor
