/- 'stillagelaw40.ScriptNone': THE TIED CARD: whatever operations come in, the law answers true, and they read as before; the listed variables are tied to the program's text. -/
import Derived.Test.YtdodnmeilhhhgaaGreatDoorSnProofs
import Derived.Test.YtdodnmeilhhhgaaGreatDoorCards
import Derived.Test.YtdodnmeilhhhgaaGreatDoorOwnTie
import Derived.Test.YtdodnmeilhhhgaaGreatDoorFacts4
import Derived.SevenTiedAt
noncomputable section
namespace Go.Proofs.YtdodnmeilhhhgaaGreatDoor
theorem sn_row_tie : Rows.scriptNoneRow.laidByTextAt .later Tryz.pinned [.sentinel, .sentinel, .data, .data, .data, .data] true :=
  OpenClaim.laidByTextAt_later rfl rfl own_tie own_noUnsafe
theorem scriptNone_card : Rows.ScriptNoneCardSaid :=
  Claim7.holds_tied_plain_at .later [] [.sentinel, .sentinel, .data, .data, .data, .data] true (true, "e1e404e80921fc22773640f74b6fed6dda3084397b0849f9268e519742ab352a") true
    scriptNone_holds (fun _ h => by cases h) sn_byText (fun _ h => by cases h) sn_row_tie rfl ⟨rfl, rfl⟩ sn_mainIs rfl
    (fun f fn hf hfn => by
      obtain rfl : f = 4 := Option.some.inj (sn_fn.symm.trans hf) |>.symm
      obtain rfl : fn = Tryz.f4 := (Option.some.inj (Tryz.func4.symm.trans hfn)).symm
      exact ⟨looks'.symm, fun j t ht => by
        have hm : t ∈ Tryz.f4.params.toList := Array.mem_toList_iff.2 (Array.mem_of_getElem? ht)
        exact (show Tryz.prog.wantsStandIn t = false by simpa using List.all_eq_true.1 sn_stand t hm)⟩)
    (goesBy_none noGo rfl)
#print axioms scriptNone_card
end Go.Proofs.YtdodnmeilhhhgaaGreatDoor
