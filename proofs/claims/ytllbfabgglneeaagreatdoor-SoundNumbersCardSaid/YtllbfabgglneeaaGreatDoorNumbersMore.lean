/- DERIVED. 'SoundNumbers' by the kernel, case by case, the rest. -/
import Derived.Test.YtllbfabgglneeaaGreatDoorEvR1s
set_option linter.unusedVariables false
namespace Go.Ev.R1
open Go Go.Ev
set_option maxRecDepth 1000000
theorem numbers3 (q : Int → Int → Bool) (v off m : Int) (tR tS : TypeId) : runK (CO (fun _ => [3]) q) 1000000 c7 [.int .i64 v, .int .i64 off] (s1 m tR tS) isTrue = q off 5 := by kernel_rfl
theorem numbers4 (q : Int → Int → Bool) (v off m : Int) (tR tS : TypeId) : runK (CO (fun _ => [4]) q) 1000000 c7 [.int .i64 v, .int .i64 off] (s1 m tR tS) isTrue = q off 5 := by kernel_rfl
end Go.Ev.R1
