/-
  Facts of the program. Printed by wip/mkfacts.py.
-/
import Derived.Test.YthnkdbjeefemoaaGreatRows
import Derived.Test.YthnkdbjeefemoaaGreatChecked
import Derived.KernelRfl
import Derived.JoinedOf
namespace Go.Proofs.YthnkdbjeefemoaaGreat
theorem pk2 : laidOutB Tryz.prog = true := by kernel_rfl
theorem pk3 : mapsRowed Tryz.prog = true := by kernel_rfl
theorem pk7 : (Tryz.prog.stops == []) = true := by kernel_rfl
theorem pk9 : (Tryz.prog.stopKnobs == []) = true := by kernel_rfl
theorem pk25 : Tryz.prog.stopsHeard = true := by kernel_rfl
theorem pk26 : Tryz.prog.mayEnter = true := by kernel_rfl
theorem own : ownKnob Tryz.prog.godebug = none := by kernel_rfl
theorem b_and {a b : Bool} (h : a = true) (h' : b = true) : (a && b) = true := by rw [h, h']; rfl
end Go.Proofs.YthnkdbjeefemoaaGreat
