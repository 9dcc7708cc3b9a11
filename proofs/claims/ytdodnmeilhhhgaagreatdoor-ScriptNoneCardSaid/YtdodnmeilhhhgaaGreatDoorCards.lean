/-
  DERIVED. GIVEN WITH THE SEED: THE CARDS: each row of YtdodnmeilhhhgaaGreatDoorRows.lean that lists a variable, with what it lists TIED to the program's text (the seventh form; the later family's looks); each row that meets fmt, with fmt's text TOLD by the authors' own Lean function (tested against real Go, not proved from fmt's source: count such statements apart). THE CARD IS WHAT COUNTS. Prove the row's statement (the work); the ties are given (YtdodnmeilhhhgaaGreatDoorTie.lean); close each card by the builder's one call (the guide's Derived/Test/ToyasCard.lean, 'card_holds'). Laid BY PROGRAM, IN A SANDBOX (cutbox-door.mjs). By AI agents, Wed Nov 11 2026. No macro, syntax, notation, axiom, sorry.
-/
import Derived.Test.YtdodnmeilhhhgaaGreatDoorRows
import GoSem.ClaimSeven
namespace Go.Proofs.YtdodnmeilhhhgaaGreatDoor
namespace Rows

/-- THE TIED CARD OF 'stillagelaw43.ImageSums'. -/
def imageSumsCard : Claim7 := { stood := { row := imageSumsRow, standIns := [], harness := (true, "e1e404e80921fc22773640f74b6fed6dda3084397b0849f9268e519742ab352a"), looks := true }, kinds := [], alts := [], laidByText := true, laidKinds := [.sentinel, .sentinel, .data, .data, .data, .data], laidTests := true, laidLooks := .later }
def ImageSumsCardSaid : Prop := Claim7.holds Tryz.pinned (.plain (OpenSpec.ofChange imageSumsSpec)) imageSumsCard

/-- THE TIED CARD OF 'stillagelaw40.ScriptNone'. -/
def scriptNoneCard : Claim7 := { stood := { row := scriptNoneRow, standIns := [], harness := (true, "e1e404e80921fc22773640f74b6fed6dda3084397b0849f9268e519742ab352a"), looks := true }, kinds := [], alts := [], laidByText := true, laidKinds := [.sentinel, .sentinel, .data, .data, .data, .data], laidTests := true, laidLooks := .later }
def ScriptNoneCardSaid : Prop := Claim7.holds Tryz.pinned (.plain (OpenSpec.ofChange scriptNoneSpec)) scriptNoneCard

/-- THE SECOND FORM's CARD OF 'stillagelaw43.ImageSums'. -/
def imageSumsUptoCard : Claim7 := { stood := { row := imageSumsUptoRow, standIns := [], harness := (true, "e1e404e80921fc22773640f74b6fed6dda3084397b0849f9268e519742ab352a"), looks := true }, kinds := [], alts := [], laidByText := true, laidKinds := [.sentinel, .sentinel, .data, .data, .data, .data], laidTests := true, laidLooks := .later }
def ImageSumsUptoCardSaid : Prop := Claim7.holds Tryz.pinned (.plain (OpenSpec.upto imageSumsSpec)) imageSumsUptoCard

/-- THE SECOND FORM's CARD OF 'stillagelaw40.ScriptNone'. -/
def scriptNoneUptoCard : Claim7 := { stood := { row := scriptNoneUptoRow, standIns := [], harness := (true, "e1e404e80921fc22773640f74b6fed6dda3084397b0849f9268e519742ab352a"), looks := true }, kinds := [], alts := [], laidByText := true, laidKinds := [.sentinel, .sentinel, .data, .data, .data, .data], laidTests := true, laidLooks := .later }
def ScriptNoneUptoCardSaid : Prop := Claim7.holds Tryz.pinned (.plain (OpenSpec.upto scriptNoneSpec)) scriptNoneUptoCard
end Rows
end Go.Proofs.YtdodnmeilhhhgaaGreatDoor
