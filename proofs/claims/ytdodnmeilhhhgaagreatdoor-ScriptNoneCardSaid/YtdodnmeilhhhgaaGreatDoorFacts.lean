/- CLOSED FACTS OF THE PROGRAM, each by the kernel, each a theorem of its own (together they outgrow the lid on memory). No condition. -/
import Derived.Test.YtdodnmeilhhhgaaGreatDoorRows
import Derived.JoinedOf
import Derived.KernelRfl
noncomputable section
namespace Go.Proofs.YtdodnmeilhhhgaaGreatDoor
theorem own : ownKnob Tryz.prog.godebug = none := by kernel_rfl
theorem mixed : Tryz.prog.follows .mixedOrders = true := by kernel_rfl
theorem laidOut' : laidOutB Tryz.prog = true := by kernel_rfl
theorem mapsRowed' : mapsRowed Tryz.prog = true := by kernel_rfl
theorem stops' : (Tryz.prog.stops == []) = true := by kernel_rfl
theorem knobs' : (Tryz.prog.stopKnobs == []) = true := by kernel_rfl
theorem bool4 : Tryz.prog.underlying 4 = some .bool := by kernel_rfl
theorem and_i {a b : Bool} (ha : a = true) (hb : b = true) : (a && b) = true := by rw [ha, hb]; rfl
end Go.Proofs.YtdodnmeilhhhgaaGreatDoor
