/- DERIVED. 'refectorylaw00.Place': a number's place; calls by the table, by places, by what is known to be true. -/
import Derived.Test.YtllbfabgglneeaaGreatDoorEvR1b
import Derived.WalkKit
import Derived.ProofKit
set_option linter.unusedVariables false
namespace Go.Ev
theorem emod_of_tmod (a n : Int) (h0 : 0 < n) : (Int.tmod a n < 0 → a % n = Int.tmod a n + n) ∧ (0 ≤ Int.tmod a n → a % n = Int.tmod a n) ∧ - n < Int.tmod a n ∧ Int.tmod a n < n := by
  have e : n * Int.tdiv a n + Int.tmod a n = a := Int.mul_tdiv_add_tmod a n
  have hu : Int.tmod a n < n := Int.tmod_lt_of_pos a h0
  have hl : - n < Int.tmod a n := by
    have := Int.tmod_lt_of_pos (-a) h0
    rw [Int.neg_tmod] at this; omega
  have e2 : a % n = Int.tmod a n % n := by
    have h := Int.mul_add_emod_self_left n (Int.tdiv a n) (Int.tmod a n)
    rw [e] at h; exact h
  refine ⟨fun h => ?_, fun h => ?_, hl, hu⟩
  · rw [e2, ← Int.add_emod_right, Int.emod_eq_of_lt (by omega) (by omega)]
  · rw [e2, Int.emod_eq_of_lt h hu]
end Go.Ev
namespace Go.Ev.R1
open Go Go.Ev Go.Proofs
theorem place_run (a n : Int) (w : World) (h0 : 0 < n) (h1 : n < 1000000) : Calls Tryz.prog 14 #[.int .i64 a, .int .i64 n] w fun e w' => e = .returned (.int .i64 (a % n)) ∧ Turned w w' w.heap := by
  have hne : n ≠ 0 := by omega
  obtain ⟨g1, g2, g3, g4⟩ := emod_of_tmod a n h0
  by_cases h : Int.tmod a n < 0
  · rw [g1 h]
    have hb : 0 ≤ Int.tmod a n + n ∧ Int.tmod a n + n < 1000000 := by omega
    go_enter Tryz.func14, Tryz.ntmps14
    go_wp2
    go_ret
    exact ⟨rfl, rfl⟩
  · rw [g2 (by omega)]
    go_enter Tryz.func14, Tryz.ntmps14
    go_wp2
    go_ret
    exact ⟨rfl, rfl⟩
theorem place_ok : PlaceOk Tryz.prog 14 := ⟨⟨_, Tryz.func14, by kernel_rfl, by kernel_rfl⟩, fun a n w h0 h1 => place_run a n w h0 h1⟩
end Go.Ev.R1
