/- CLOSED FACTS OF A WORLD THAT MEETS THE ROW 'ScriptNone', by the kernel. No condition. -/
import Derived.Test.YtdodnmeilhhhgaaGreatDoorFacts
import Derived.LaidMore
import Derived.Lay
import Derived.Stop.Joined
noncomputable section
namespace Go.Proofs.YtdodnmeilhhhgaaGreatDoor
theorem sn_zip (os : Os) : ((World.laidAll Tryz.prog os Rows.scriptNoneRow.laid).forCall (fun _ _ => 0) ⟨#[], #[.slice none 0 0], []⟩).variablesZipB Tryz.prog = true := by kernel_rfl
theorem sn_heap (os : Os) : (((World.laidAll Tryz.prog os Rows.scriptNoneRow.laid).forCall (fun _ _ => 0) ⟨#[], #[.slice none 0 0], []⟩).heap.toList.drop Tryz.prog.globals.size).take ((begin Tryz.prog (fun _ _ => 0) default).world.heap.size - Tryz.prog.globals.size) =
      (begin Tryz.prog (fun _ _ => 0) default).world.heap.toList.drop Tryz.prog.globals.size := by kernel_rfl
theorem sn_okWide (os : Os) : Input.okWideB Tryz.prog ((World.laidAll Tryz.prog os Rows.scriptNoneRow.laid).forCall (fun _ _ => 0) ⟨#[], #[.slice none 0 0], []⟩) 4 ⟨#[], #[.slice none 0 0], []⟩ = true := by kernel_rfl
theorem sn_fits (os : Os) : (World.holding Tryz.prog os ⟨#[], #[], []⟩).layFits Tryz.prog Rows.scriptNoneRow.laid [] = true := by kernel_rfl
theorem sn_lay (os : Os) : (World.holding Tryz.prog os ⟨#[], #[], []⟩).layIfaces Tryz.prog Rows.scriptNoneRow.laid (World.laidAll Tryz.prog os Rows.scriptNoneRow.laid) = true := by kernel_rfl
theorem sn_pre (os : Os) {H : Type} (enc : TypeId × Value → H) : Rows.scriptNoneSpec.preB enc Tryz.prog Tryz.f4 [] false ((World.laidAll Tryz.prog os Rows.scriptNoneRow.laid).forCall (fun _ _ => 0) ⟨#[], #[.slice none 0 0], []⟩).memory #[.slice none 0 0] 8 = true := by kernel_rfl
theorem sn_sized (os : Os) {H : Type} (enc : TypeId × Value → H) : Rows.scriptNoneSpec.sizedB enc Tryz.prog Tryz.f4 false ((World.laidAll Tryz.prog os Rows.scriptNoneRow.laid).forCall (fun _ _ => 0) ⟨#[], #[.slice none 0 0], []⟩).memory #[.slice none 0 0] 8 = true := by kernel_rfl
end Go.Proofs.YtdodnmeilhhhgaaGreatDoor
