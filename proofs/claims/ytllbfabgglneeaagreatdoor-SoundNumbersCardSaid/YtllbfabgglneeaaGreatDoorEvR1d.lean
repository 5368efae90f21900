/- DERIVED. The awake functions of the layers 09 and 10 return true: by the kernel. -/
import Derived.Test.YtllbfabgglneeaaGreatDoorEvR1c
set_option linter.unusedVariables false
namespace Go.Ev.R1
open Go Go.Ev Go.Proofs
set_option maxRecDepth 1000000
theorem glob8 (g : Nat) (h : CX.glob g = true) : g < 8 := by
  have h' : Nat.blt g 8 = true := h
  exact Nat.blt_eq.mp h'
theorem awake10_runs (m : Int) : callK T 1000000 100 12 [] (oneSt 3 8 m) isTrue = true := by kernel_rfl
theorem awake10 : AwakeOk Tryz.prog CX 3 12 := awake_of (by decide) glob8 (calls_ok 1000000 100) ⟨_, Tryz.func12, by kernel_rfl, by kernel_rfl⟩ awake10_runs
end Go.Ev.R1
