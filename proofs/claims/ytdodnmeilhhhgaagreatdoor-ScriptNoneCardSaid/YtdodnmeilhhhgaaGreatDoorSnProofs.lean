/- 'stillagelaw40.ScriptNone': whatever operations come in, the law answers true, and they read as before. Conditions: those of the row alone. -/
import Derived.Test.YtdodnmeilhhhgaaGreatDoorSnRun
import Derived.Test.YtdodnmeilhhhgaaGreatDoorFacts2
import Derived.Test.YtdodnmeilhhhgaaGreatDoorFacts3
import Derived.Test.YtdodnmeilhhhgaaGreatDoorSnFactsA
import Derived.Test.YtdodnmeilhhhgaaGreatDoorSnFactsB
import Derived.Test.YtdodnmeilhhhgaaGreatDoorSnFactsC
import Derived.Test.YtdodnmeilhhhgaaGreatDoorSnFactsD
noncomputable section
namespace Go.Proofs.YtdodnmeilhhhgaaGreatDoor
open AM Go.ChangeShapes Go.WideShapes Go.RowKit

theorem sn_plain' : (Rows.scriptNoneRow.laid.all fun x => x.2.handleName?.isNone) = true := by kernel_rfl
theorem scriptNone_lifted (os : Os) (started : os.Started) (H : Type) (enc : TypeId × Value → H) :
    ReturnsInHanded {} Tryz.checked os 4 .any (fun w args => (Rows.scriptNoneSpec.pre enc Tryz.prog Tryz.f4 [] false w args ∧ laidMetH Tryz.prog Rows.scriptNoneRow.laid w) ∧ sizedMet enc Tryz.prog Tryz.f4 (OpenSpec.ofChange Rows.scriptNoneSpec) false w args)
      (Rows.scriptNoneSpec.post enc Tryz.prog Tryz.f4 false true false false) := by
  refine returnsInHanded_of_change_and (C := Tryz.checked) (X := fun w _ => laidMetH Tryz.prog Rows.scriptNoneRow.laid w) (fun _ _ _ hh h => h.of_heap hh) own started (by kernel_rfl) Tryz.func4
    (ChangeSpec.witness_shaped (enc := enc) (C := Tryz.checked) (os := os) (X := fun w _ => laidMetH Tryz.prog Rows.scriptNoneRow.laid w) false (World.laidAll Tryz.prog os Rows.scriptNoneRow.laid) #[.slice none 0 0] 8 (World.laidAll_os _ _ _)
      (World.shaped_of_ZipB (sn_zip os) (sn_heap os)) (sn_okWide os) (sn_pre os enc) (sn_sized os enc)
      (by rw [MakeChecks.laidMetH_plain _ _ _ sn_plain']; exact laidMet_laidAll _ (sn_fits os) (sn_lay os))) ?_
  intro W base args ds gs before hval0 hW hc _ hL _
  have hpar : ∀ t ∈ Tryz.f4.params.toList, Tryz.prog.readableRec t = true ∧ t < Tryz.prog.types.size := fun t ht => by
    have := List.all_eq_true.1 sn_par t ht
    simpa using this
  obtain ⟨v, d, hv, rfl, rfl⟩ : ∃ v d, args.toList = [v] ∧ ds = [d] ∧ gs = [] := by
    obtain ⟨p, q, hA, hV, _⟩ := hW
    have e : Tryz.f4.params.toList = [33] := by kernel_rfl
    rw [e] at hA
    obtain ⟨v, vs1, d, ds1, _, _, h1, rfl, _, _, h2⟩ := trodAll_cons hA
    obtain ⟨rfl, rfl, _⟩ := trodAll_nil h2
    exact ⟨v, d, h1, rfl, (trodVars_none hV).1⟩
  refine calls_of_true (t0 := 4) (S0 := bareSt Tryz.prog) (xs := [.undef]) bareSt_bare laidOut' hpar (by kernel_rfl) bool4 rfl (by kernel_rfl) hW rfl (bareSt_rel W) ?_ (acall_of_eval mixed noNat_ok scriptNone_run)
  rw [hv]; exact .cons (.undef v) .nil

theorem sn_keys : (Rows.scriptNoneRow.plainKeys == Tryz.prog.plainKeys) = true := by rw [plainKeys']; kernel_rfl
theorem sn_none : Rows.scriptNoneRow.shortTexts.isNone = true := by kernel_rfl
theorem sn_nil : (Rows.scriptNoneRow.stops == []) = true := by kernel_rfl
theorem sn_nil' : (Rows.scriptNoneRow.knobs == []) = true := by kernel_rfl
set_option maxRecDepth 100000 in
theorem sn_joined : joinedFacts Tryz.pinned.checked.prog 4 Tryz.f4 Rows.scriptNoneSpec Rows.scriptNoneRow = true :=
  and_i (and_i (and_i (and_i (and_i (and_i (and_i (and_i (and_i (and_i (and_i (and_i (and_i (and_i (and_i (and_i (and_i (and_i (and_i (and_i (and_i (and_i (and_i (and_i (and_i (and_i (and_i (and_i (and_i (and_i (and_i
    sn_wf laidOut') mapsRowed') sn_params) sn_tie) sn_nil) stops') sn_nil') knobs') sn_inPlace) sn_unfollowed) sn_recurses) sn_named) sn_maps) sn_ifaces) sn_mapsOut) sn_loops) sn_wide) sn_vars) sn_res) sn_ifacesOut) sn_loopsOut) sn_keys) sn_none) heard') mayEnter') sn_lifted) sn_make) sn_kinds) sn_pinned) sn_veiled) sn_veiledFits

theorem scriptNone_holds : Rows.ScriptNoneSaid :=
  OpenClaim.holds_of_wide 4 Tryz.f4 rfl rfl rfl rfl rfl rfl rfl ⟨rfl, rfl, rfl, rfl, rfl⟩ rfl rfl rfl rfl rfl sn_fn Tryz.func4 sn_joined
    sn_inst (by unfold Func.isWrapper; first | (rw [if_pos (by decide +kernel)]; kernel_rfl) | (rw [if_neg (by decide +kernel)]; exact ⟨rfl, rfl⟩))
    (fun os started H enc _ => scriptNone_lifted os started H enc)
end Go.Proofs.YtdodnmeilhhhgaaGreatDoor
