/- CLOSED FACTS OF THE ROW 'ScriptNone', by the kernel. No condition. -/
import Derived.Test.YtdodnmeilhhhgaaGreatDoorFacts
import Derived.SevenTiedAt
noncomputable section
namespace Go.Proofs.YtdodnmeilhhhgaaGreatDoor
theorem sn_wf : Rows.scriptNoneRow.wf (OpenSpec.ofChange Rows.scriptNoneSpec) = true := by kernel_rfl
theorem sn_params : (Tryz.f4.params.all (Tryz.prog.readableRec ·)) = true := by kernel_rfl
theorem sn_par : (Tryz.f4.params.toList.all fun t => Tryz.prog.readableRec t && decide (t < Tryz.prog.types.size)) = true := by kernel_rfl
theorem sn_tie : namedTie Tryz.prog Rows.scriptNoneRow.named Rows.scriptNoneSpec.vars = true := by kernel_rfl
theorem sn_maps : (Rows.scriptNoneRow.maps == (Tryz.f4.params.toList ++ Rows.scriptNoneSpec.plain.varTypes Tryz.prog).any (Tryz.prog.mapsRec ·)) = true := by kernel_rfl
theorem sn_ifaces : (Rows.scriptNoneRow.ifaces == (Tryz.f4.params.toList ++ Rows.scriptNoneSpec.plain.varTypes Tryz.prog).any (Tryz.prog.ifacesRec ·)) = true := by kernel_rfl
theorem sn_mapsOut : (Rows.scriptNoneRow.mapsOut == Tryz.prog.mapsAmong Tryz.f4.resultTypes.toList) = true := by kernel_rfl
theorem sn_loops : (Rows.scriptNoneRow.loops == (Tryz.f4.params.toList ++ Rows.scriptNoneSpec.plain.varTypes Tryz.prog).any (Tryz.prog.loopsFrom ·)) = true := by kernel_rfl
theorem sn_wide : (Rows.scriptNoneRow.wideKeys == (Tryz.f4.params.toList ++ Rows.scriptNoneSpec.plain.varTypes Tryz.prog ++ Tryz.f4.resultTypes.toList).any (Tryz.prog.wideKeysFrom ·)) = true := by kernel_rfl
theorem sn_vars : (Rows.scriptNoneSpec.vars.all (Tryz.prog.varReadable ·)) = true := by kernel_rfl
theorem sn_res : (Tryz.f4.resultTypes.all fun t => Tryz.prog.readableRec t && decide (t < Tryz.prog.types.size)) = true := by kernel_rfl
theorem sn_ifacesOut : (Rows.scriptNoneRow.ifacesOut == Tryz.f4.resultTypes.toList.any (Tryz.prog.ifacesRec ·)) = true := by kernel_rfl
theorem sn_loopsOut : (Rows.scriptNoneRow.loopsOut == Tryz.f4.resultTypes.toList.any (Tryz.prog.loopsFrom ·)) = true := by kernel_rfl
theorem sn_lifted : (Rows.scriptNoneRow.lifted == Tryz.prog.liftsFinal) = true := by kernel_rfl
theorem sn_make : (Tryz.prog.make == some Rows.scriptNoneRow.make) = true := by kernel_rfl
theorem sn_kinds : (Rows.scriptNoneRow.kinds == (if Rows.scriptNoneRow.domain.isEmpty then [] else Tryz.f4.params.toList.map fun t => match Tryz.prog.underlying t with | some (.int k) => some k | _ => none)) = true := by kernel_rfl
theorem sn_pinned : (Rows.scriptNoneRow.pinned == Rows.scriptNoneRow.pinnedBy) = true := by kernel_rfl
theorem sn_veiled : (Rows.scriptNoneRow.veiled == (Tryz.f4.params.toList ++ Rows.scriptNoneSpec.plain.varTypes Tryz.prog ++ Tryz.f4.resultTypes.toList).any (Tryz.prog.veiledRec ·)) = true := by kernel_rfl
theorem sn_veiledFits : Rows.scriptNoneRow.veiledFits Tryz.prog Tryz.f4.params.toList (Tryz.f4.params.toList ++ Rows.scriptNoneSpec.plain.varTypes Tryz.prog ++ Tryz.f4.resultTypes.toList) = true := by kernel_rfl
theorem sn_fn : Tryz.pinned.checked.prog.funcNamed Rows.scriptNoneRow.func = some 4 := by kernel_rfl
theorem sn_inst : Tryz.f4.isInstance Tryz.prog Rows.scriptNoneRow.origin Rows.scriptNoneRow.targs := of_decide_eq_true (by kernel_rfl)
theorem sn_byText : Rows.scriptNoneRow.wfByText (OpenSpec.ofChange Rows.scriptNoneSpec) = true := by kernel_rfl
theorem sn_mainIs : Tryz.prog.mainIs = some (true, "e1e404e80921fc22773640f74b6fed6dda3084397b0849f9268e519742ab352a".toList) := by kernel_rfl
theorem sn_stand : (Tryz.f4.params.toList.all fun u => !Tryz.prog.wantsStandIn u) = true := by kernel_rfl
end Go.Proofs.YtdodnmeilhhhgaaGreatDoor
