/- NO FUNCTION OF THE PROGRAM STARTS A GOROUTINE: a closed fact by the kernel. No condition. -/
import Derived.Test.YtdodnmeilhhhgaaGreatDoorFacts
import Derived.SevenTiedAt
noncomputable section
namespace Go.Proofs.YtdodnmeilhhhgaaGreatDoor
theorem noGo : Tryz.prog.funcs.any Func.goes = false := by kernel_rfl
theorem goes_none {P : Program} (h : P.funcs.any Func.goes = false) (f : FuncId) : P.goes f = false := by
  unfold Program.goes
  rw [h, Bool.and_false, Bool.or_false]
  rw [List.any_eq_false]
  intro g _
  cases hg : P.funcs[g]? with
  | none => simp
  | some fn =>
    rw [Array.any_eq_false] at h
    obtain ⟨hlt, he⟩ := Array.getElem?_eq_some_iff.1 hg
    have := h g hlt
    rw [he] at this
    simpa using this
theorem goesBy_none {P : Program} (h : P.funcs.any Func.goes = false) {c : OpenClaim} (hs : c.start = .entering) : false = c.goesBy P := by
  unfold OpenClaim.goesBy Program.goesAt Program.goesFrom
  rw [hs]
  cases P.funcNamed c.func with
  | none => rfl
  | some f => simp [goes_none h f]
end Go.Proofs.YtdodnmeilhhhgaaGreatDoor
