/- DERIVED. 'SoundMany' by the kernel, case by case. -/
import Derived.Test.YtllbfabgglneeaaGreatDoorEvR1s
set_option linter.unusedVariables false
namespace Go.Ev.R1
open Go Go.Ev
set_option maxRecDepth 1000000
noncomputable def boolL (b : Bool) (x y : List Nat) : List Nat := Bool.rec (motive := fun _ => List Nat) y x b
theorem many0_0 (q : Int → Int → Bool) (how n m : Int) (tR tS : TypeId) : runK (CO (fun u => boolL (Nat.beq u 2) [0] [0]) q) 1000000 c6 [.int .i64 how, .int .i64 n] (s1 m tR tS) isTrue = boolK (q how 4) (q n 2) false := by kernel_rfl
theorem many1_0 (q : Int → Int → Bool) (how n m : Int) (tR tS : TypeId) : runK (CO (fun u => boolL (Nat.beq u 2) [1] [0]) q) 1000000 c6 [.int .i64 how, .int .i64 n] (s1 m tR tS) isTrue = boolK (q how 4) (q n 2) false := by kernel_rfl
theorem many0_1 (q : Int → Int → Bool) (how n m : Int) (tR tS : TypeId) : runK (CO (fun u => boolL (Nat.beq u 2) [0] [1]) q) 1000000 c6 [.int .i64 how, .int .i64 n] (s1 m tR tS) isTrue = boolK (q how 4) (q n 2) false := by kernel_rfl
theorem many1_1 (q : Int → Int → Bool) (how n m : Int) (tR tS : TypeId) : runK (CO (fun u => boolL (Nat.beq u 2) [1] [1]) q) 1000000 c6 [.int .i64 how, .int .i64 n] (s1 m tR tS) isTrue = boolK (q how 4) (q n 2) false := by kernel_rfl
theorem many0_2 (q : Int → Int → Bool) (how n m : Int) (tR tS : TypeId) : runK (CO (fun u => boolL (Nat.beq u 2) [0] [2]) q) 1000000 c6 [.int .i64 how, .int .i64 n] (s1 m tR tS) isTrue = boolK (q how 4) (q n 2) false := by kernel_rfl
theorem many1_2 (q : Int → Int → Bool) (how n m : Int) (tR tS : TypeId) : runK (CO (fun u => boolL (Nat.beq u 2) [1] [2]) q) 1000000 c6 [.int .i64 how, .int .i64 n] (s1 m tR tS) isTrue = boolK (q how 4) (q n 2) false := by kernel_rfl
theorem many0_3 (q : Int → Int → Bool) (how n m : Int) (tR tS : TypeId) : runK (CO (fun u => boolL (Nat.beq u 2) [0] [3]) q) 1000000 c6 [.int .i64 how, .int .i64 n] (s1 m tR tS) isTrue = boolK (q how 4) (q n 2) false := by kernel_rfl
theorem many1_3 (q : Int → Int → Bool) (how n m : Int) (tR tS : TypeId) : runK (CO (fun u => boolL (Nat.beq u 2) [1] [3]) q) 1000000 c6 [.int .i64 how, .int .i64 n] (s1 m tR tS) isTrue = boolK (q how 4) (q n 2) false := by kernel_rfl
end Go.Ev.R1
