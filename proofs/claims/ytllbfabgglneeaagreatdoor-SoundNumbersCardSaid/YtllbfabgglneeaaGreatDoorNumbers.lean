/- DERIVED. 'Rows.SoundNumbersCardSaid' PROVED: SoundNumbers returns true for every two integers, in every world in which the listed variables of Go's library read as the program's own text lays them. -/
import Derived.Test.YtllbfabgglneeaaGreatDoorEvR1f
import Derived.Test.YtllbfabgglneeaaGreatDoorNumbersCases
import Derived.Test.YtllbfabgglneeaaGreatDoorNumbersMore
import Derived.Test.YtllbfabgglneeaaGreatDoorTie
import Derived.Test.YtllbfabgglneeaaGreatDoorCards
set_option linter.unusedVariables false
namespace Go.Proofs.YtllbfabgglneeaaGreatDoor.SoundNumbersProof
open Go.ChangeShapes Go.WideShapes Go.ChangeAt Go.RowKit Go.Ev Go.Ev.R1
theorem q_at {j : Nat} {a n : Int} (h : (a % n).toNat = j) : qOf (fun _ => [j]) a n = true := by simp [qOf, h]
theorem walk (v off : Int) {W : World} (hs : W.ShapedOpen Tryz.prog) (hl : Two W) : Calls Tryz.prog 7 #[.int .i64 v, .int .i64 off] W fun e w' => e = .returned (.bool true) ∧ Kept W w' := by
  refine said (vs := [.int .i64 v, .int .i64 off]) ok7 (args := [.int .i64 v, .int .i64 off]) (fun ρ => by simp [concs, conc]) hs hl fun m tR tS => ?_
  have hj : (off % 5).toNat = 0 ∨ (off % 5).toNat = 1 ∨ (off % 5).toNat = 2 ∨ (off % 5).toNat = 3 ∨ (off % 5).toNat = 4 := by omega
  rcases hj with h | h | h | h | h
  · exact ⟨_, (numbers0 _ v off m tR tS).trans (q_at h)⟩
  · exact ⟨_, (numbers1 _ v off m tR tS).trans (q_at h)⟩
  · exact ⟨_, (numbers2 _ v off m tR tS).trans (q_at h)⟩
  · exact ⟨_, (numbers3 _ v off m tR tS).trans (q_at h)⟩
  · exact ⟨_, (numbers4 _ v off m tR tS).trans (q_at h)⟩
theorem two_of {W : World} (h : laidMetH Tryz.prog Rows.soundNumbersRow.laid W) : Two W := by
  rw [MakeChecks.laidMetH_plain _ _ _ (by kernel_rfl)] at h
  exact ⟨_, (show laidMet Tryz.prog (_ :: _ :: _ :: _ :: _ :: _ :: _) W from h).tail.tail.tail.tail⟩
set_option maxRecDepth 100000 in
theorem lifted (os : Os) (started : os.Started) (H : Type) (enc : TypeId × Value → H) :
    ReturnsInHanded {} Tryz.checked os 7 .any (fun w args => (Rows.soundNumbersSpec.pre enc Tryz.prog Tryz.f7 Rows.soundNumbersRow.domain false w args ∧ laidMetH Tryz.prog Rows.soundNumbersRow.laid w) ∧ sizedMet enc Tryz.prog Tryz.f7 (OpenSpec.ofChange Rows.soundNumbersSpec) false w args)
      (Rows.soundNumbersSpec.post enc Tryz.prog Tryz.f7 false true false false) := by
  refine returnsInHanded_shaped (C := Tryz.checked) (X := fun w _ => laidMetH Tryz.prog Rows.soundNumbersRow.laid w) (fun _ _ _ hh h => h.of_heap hh) own started (by kernel_rfl) Tryz.func7
    (ChangeSpec.witness_shaped (enc := enc) (C := Tryz.checked) (os := os) (X := fun w _ => laidMetH Tryz.prog Rows.soundNumbersRow.laid w) false (World.laidAll Tryz.prog os Rows.soundNumbersRow.laid) #[.int .i64 0, .int .i64 0] 8 (World.laidAll_os _ _ _)
      (World.shaped_of_ZipB (by kernel_rfl) (by kernel_rfl)) (by kernel_rfl) (by kernel_rfl) (by kernel_rfl)
      (by rw [MakeChecks.laidMetH_plain _ _ _ (by kernel_rfl)]; exact laidMet_laidAll _ (by kernel_rfl) (by kernel_rfl))) ?_
  intro W base args ds gs before hval0 hW hc hL hS
  have hval : ∀ (j : Nat) t v, Tryz.f7.params[j]? = some t → args[j]? = some v → Value.okWide Tryz.prog W .any base t v := hval0
  have hW' := hW
  obtain ⟨p, q, hA0, hV, rfl, _, _⟩ := hW
  have hA : DataW.TrodAll enc Tryz.prog W 0 (fun _ => true) true Tryz.f7.params.toList args.toList ds p := hA0
  rw [Tryz.params7] at hA hval
  obtain ⟨v0, vs0, d0, ds0, p0, q0, hargs, rfl, rfl, h0, r0⟩ := trodAll_cons hA
  obtain ⟨v1, vs1, d1, ds1, p1, q1, rfl, rfl, rfl, h1, r1⟩ := trodAll_cons r0
  obtain ⟨rfl, rfl, rfl⟩ := trodAll_nil r1
  obtain rfl : args = #[v0, v1] := by cases args; simp_all
  obtain ⟨rfl, rfl⟩ := trodVars_none hV
  obtain ⟨a0, rfl, rfl, rfl, w0⟩ := open_int Tryz.underlying3 (hval 0 3 v0 rfl rfl) h0
  obtain ⟨a1, rfl, rfl, rfl, w1⟩ := open_int Tryz.underlying3 (hval 1 3 v1 rfl rfl) h1
  clear hA0 hval0
  simp only [List.append_nil] at hW'
  refine (walk a0 a1 hS (two_of hL)).mono fun e W' ⟨he, hk⟩ => ?_
  subst he
  exact ⟨_, rfl, _, _, _, [], [], [], hW', trodAll_cons_mk (shut_bool Tryz.underlying4 _) trodAll_mk0, trodAll_cons_mk (shut_int Tryz.underlying3 w0) (trodAll_cons_mk (shut_int Tryz.underlying3 w1) trodAll_mk0), rfl, hk.keptBut _, fun h => by cases h⟩
theorem over : Rows.SoundNumbersSaid :=
  OpenClaim.holds_of_wide 7 Tryz.f7 rfl rfl rfl rfl rfl rfl rfl ⟨rfl, rfl, rfl, rfl, rfl⟩ rfl rfl rfl rfl rfl (by kernel_rfl) Tryz.func7 (by kernel_rfl)
    (of_decide_eq_true (by kernel_rfl)) (by unfold Func.isWrapper; first | (rw [if_pos (by decide +kernel)]; kernel_rfl) | (rw [if_neg (by decide +kernel)]; exact ⟨rfl, rfl⟩))
    (fun os started H enc _ => lifted os started H enc)
end Go.Proofs.YtllbfabgglneeaaGreatDoor.SoundNumbersProof
namespace Go.Proofs.YtllbfabgglneeaaGreatDoor
open Go SoundNumbersProof
theorem soundNumbers_card_holds : Rows.SoundNumbersCardSaid :=
  Claim7.holds_tied_plain_at .later [] [.data, .data, .data, .data, .sentinel, .sentinel, .pinned] true (true, "96ac4ed1abce56927af005d9f006e552418beb31815a0511857d7affd94f2447") true
    over (fun _ h => by cases h) (by kernel_rfl) (fun _ h => by cases h) soundNumbers_row_tie rfl ⟨rfl, rfl⟩ (by kernel_rfl) rfl
    (fun f fn hf hfn => by
      obtain rfl : f = 7 := Option.some.inj ((show Tryz.prog.funcNamed "refectory/refectorylaw10.SoundNumbers" = some 7 by kernel_rfl).symm.trans hf) |>.symm
      obtain rfl : fn = Tryz.f7 := (Option.some.inj (Tryz.func7.symm.trans hfn)).symm
      exact ⟨by kernel_rfl, fun j t ht => by
        rw [Tryz.params7] at ht
        have hm : t ∈ [3] := by simpa using Array.mem_of_getElem? ht
        have hall : ([3].all fun u => !Tryz.prog.wantsStandIn u) = true := by kernel_rfl
        exact (show Tryz.prog.wantsStandIn t = false by simpa using List.all_eq_true.1 hall t hm)⟩)
    (by kernel_rfl)
#print axioms soundNumbers_card_holds
end Go.Proofs.YtllbfabgglneeaaGreatDoor
