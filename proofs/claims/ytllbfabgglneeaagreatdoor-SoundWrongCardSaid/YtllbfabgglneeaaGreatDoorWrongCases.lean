/- DERIVED. 'SoundWrong' by the kernel, case by case. -/
import Derived.Test.YtllbfabgglneeaaGreatDoorEvR1s
set_option linter.unusedVariables false
namespace Go.Ev.R1
open Go Go.Ev
set_option maxRecDepth 1000000
theorem wrong0 (q : Int → Int → Bool) (how m : Int) (tR tS : TypeId) : runK (CO (fun _ => [0]) q) 1000000 c5 [.int .i64 how] (s1 m tR tS) isTrue = q how 16 := by kernel_rfl
theorem wrong1 (q : Int → Int → Bool) (how m : Int) (tR tS : TypeId) : runK (CO (fun _ => [1]) q) 1000000 c5 [.int .i64 how] (s1 m tR tS) isTrue = q how 16 := by kernel_rfl
theorem wrong2 (q : Int → Int → Bool) (how m : Int) (tR tS : TypeId) : runK (CO (fun _ => [2]) q) 1000000 c5 [.int .i64 how] (s1 m tR tS) isTrue = q how 16 := by kernel_rfl
theorem wrong3 (q : Int → Int → Bool) (how m : Int) (tR tS : TypeId) : runK (CO (fun _ => [3]) q) 1000000 c5 [.int .i64 how] (s1 m tR tS) isTrue = q how 16 := by kernel_rfl
theorem wrong4 (q : Int → Int → Bool) (how m : Int) (tR tS : TypeId) : runK (CO (fun _ => [4]) q) 1000000 c5 [.int .i64 how] (s1 m tR tS) isTrue = q how 16 := by kernel_rfl
theorem wrong5 (q : Int → Int → Bool) (how m : Int) (tR tS : TypeId) : runK (CO (fun _ => [5]) q) 1000000 c5 [.int .i64 how] (s1 m tR tS) isTrue = q how 16 := by kernel_rfl
theorem wrong6 (q : Int → Int → Bool) (how m : Int) (tR tS : TypeId) : runK (CO (fun _ => [6]) q) 1000000 c5 [.int .i64 how] (s1 m tR tS) isTrue = q how 16 := by kernel_rfl
theorem wrong7 (q : Int → Int → Bool) (how m : Int) (tR tS : TypeId) : runK (CO (fun _ => [7]) q) 1000000 c5 [.int .i64 how] (s1 m tR tS) isTrue = q how 16 := by kernel_rfl
theorem wrong8 (q : Int → Int → Bool) (how m : Int) (tR tS : TypeId) : runK (CO (fun _ => [8]) q) 1000000 c5 [.int .i64 how] (s1 m tR tS) isTrue = q how 16 := by kernel_rfl
theorem wrong9 (q : Int → Int → Bool) (how m : Int) (tR tS : TypeId) : runK (CO (fun _ => [9]) q) 1000000 c5 [.int .i64 how] (s1 m tR tS) isTrue = q how 16 := by kernel_rfl
theorem wrong10 (q : Int → Int → Bool) (how m : Int) (tR tS : TypeId) : runK (CO (fun _ => [10]) q) 1000000 c5 [.int .i64 how] (s1 m tR tS) isTrue = q how 16 := by kernel_rfl
theorem wrong11 (q : Int → Int → Bool) (how m : Int) (tR tS : TypeId) : runK (CO (fun _ => [11]) q) 1000000 c5 [.int .i64 how] (s1 m tR tS) isTrue = q how 16 := by kernel_rfl
theorem wrong12 (q : Int → Int → Bool) (how m : Int) (tR tS : TypeId) : runK (CO (fun _ => [12]) q) 1000000 c5 [.int .i64 how] (s1 m tR tS) isTrue = q how 16 := by kernel_rfl
theorem wrong13 (q : Int → Int → Bool) (how m : Int) (tR tS : TypeId) : runK (CO (fun _ => [13]) q) 1000000 c5 [.int .i64 how] (s1 m tR tS) isTrue = q how 16 := by kernel_rfl
theorem wrong14 (q : Int → Int → Bool) (how m : Int) (tR tS : TypeId) : runK (CO (fun _ => [14]) q) 1000000 c5 [.int .i64 how] (s1 m tR tS) isTrue = q how 16 := by kernel_rfl
theorem wrong15 (q : Int → Int → Bool) (how m : Int) (tR tS : TypeId) : runK (CO (fun _ => [15]) q) 1000000 c5 [.int .i64 how] (s1 m tR tS) isTrue = q how 16 := by kernel_rfl
end Go.Ev.R1
