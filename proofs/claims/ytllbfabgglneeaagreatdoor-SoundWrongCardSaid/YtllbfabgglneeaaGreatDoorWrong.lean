/- DERIVED. 'Rows.SoundWrongCardSaid' PROVED: SoundWrong returns true for every integer, in every world in which the listed variables of Go's library read as the program's own text lays them. -/
import Derived.Test.YtllbfabgglneeaaGreatDoorEvR1f
import Derived.Test.YtllbfabgglneeaaGreatDoorWrongCases
import Derived.Test.YtllbfabgglneeaaGreatDoorTie
import Derived.Test.YtllbfabgglneeaaGreatDoorCards
set_option linter.unusedVariables false
namespace Go.Proofs.YtllbfabgglneeaaGreatDoor.SoundWrongProof
open Go.ChangeShapes Go.WideShapes Go.ChangeAt Go.RowKit Go.Ev Go.Ev.R1
theorem q_at {j : Nat} {a n : Int} (h : (a % n).toNat = j) : qOf (fun _ => [j]) a n = true := by simp [qOf, h]
theorem walk (a : Int) {W : World} (hs : W.ShapedOpen Tryz.prog) (hl : Two W) : Calls Tryz.prog 5 #[.int .i64 a] W fun e w' => e = .returned (.bool true) ∧ Kept W w' := by
  refine said (vs := [.int .i64 a]) ok5 (args := [.int .i64 a]) (fun ρ => by simp [concs, conc]) hs hl fun m tR tS => ?_
  have hj : (a % 16).toNat = 0 ∨ (a % 16).toNat = 1 ∨ (a % 16).toNat = 2 ∨ (a % 16).toNat = 3 ∨ (a % 16).toNat = 4 ∨ (a % 16).toNat = 5 ∨ (a % 16).toNat = 6 ∨ (a % 16).toNat = 7 ∨
      (a % 16).toNat = 8 ∨ (a % 16).toNat = 9 ∨ (a % 16).toNat = 10 ∨ (a % 16).toNat = 11 ∨ (a % 16).toNat = 12 ∨ (a % 16).toNat = 13 ∨ (a % 16).toNat = 14 ∨ (a % 16).toNat = 15 := by omega
  rcases hj with h | h | h | h | h | h | h | h | h | h | h | h | h | h | h | h
  · exact ⟨_, (wrong0 _ a m tR tS).trans (q_at h)⟩
  · exact ⟨_, (wrong1 _ a m tR tS).trans (q_at h)⟩
  · exact ⟨_, (wrong2 _ a m tR tS).trans (q_at h)⟩
  · exact ⟨_, (wrong3 _ a m tR tS).trans (q_at h)⟩
  · exact ⟨_, (wrong4 _ a m tR tS).trans (q_at h)⟩
  · exact ⟨_, (wrong5 _ a m tR tS).trans (q_at h)⟩
  · exact ⟨_, (wrong6 _ a m tR tS).trans (q_at h)⟩
  · exact ⟨_, (wrong7 _ a m tR tS).trans (q_at h)⟩
  · exact ⟨_, (wrong8 _ a m tR tS).trans (q_at h)⟩
  · exact ⟨_, (wrong9 _ a m tR tS).trans (q_at h)⟩
  · exact ⟨_, (wrong10 _ a m tR tS).trans (q_at h)⟩
  · exact ⟨_, (wrong11 _ a m tR tS).trans (q_at h)⟩
  · exact ⟨_, (wrong12 _ a m tR tS).trans (q_at h)⟩
  · exact ⟨_, (wrong13 _ a m tR tS).trans (q_at h)⟩
  · exact ⟨_, (wrong14 _ a m tR tS).trans (q_at h)⟩
  · exact ⟨_, (wrong15 _ a m tR tS).trans (q_at h)⟩
theorem two_of {W : World} (h : laidMetH Tryz.prog Rows.soundWrongRow.laid W) : Two W := by
  rw [MakeChecks.laidMetH_plain _ _ _ (by kernel_rfl)] at h
  exact ⟨_, (show laidMet Tryz.prog (_ :: _ :: _ :: _ :: _ :: _ :: _) W from h).tail.tail.tail.tail⟩
set_option maxRecDepth 100000 in
theorem lifted (os : Os) (started : os.Started) (H : Type) (enc : TypeId × Value → H) :
    ReturnsInHanded {} Tryz.checked os 5 .any (fun w args => (Rows.soundWrongSpec.pre enc Tryz.prog Tryz.f5 Rows.soundWrongRow.domain false w args ∧ laidMetH Tryz.prog Rows.soundWrongRow.laid w) ∧ sizedMet enc Tryz.prog Tryz.f5 (OpenSpec.ofChange Rows.soundWrongSpec) false w args)
      (Rows.soundWrongSpec.post enc Tryz.prog Tryz.f5 false true false false) := by
  refine returnsInHanded_shaped (C := Tryz.checked) (X := fun w _ => laidMetH Tryz.prog Rows.soundWrongRow.laid w) (fun _ _ _ hh h => h.of_heap hh) own started (by kernel_rfl) Tryz.func5
    (ChangeSpec.witness_shaped (enc := enc) (C := Tryz.checked) (os := os) (X := fun w _ => laidMetH Tryz.prog Rows.soundWrongRow.laid w) false (World.laidAll Tryz.prog os Rows.soundWrongRow.laid) #[.int .i64 0] 8 (World.laidAll_os _ _ _)
      (World.shaped_of_ZipB (by kernel_rfl) (by kernel_rfl)) (by kernel_rfl) (by kernel_rfl) (by kernel_rfl)
      (by rw [MakeChecks.laidMetH_plain _ _ _ (by kernel_rfl)]; exact laidMet_laidAll _ (by kernel_rfl) (by kernel_rfl))) ?_
  intro W base args ds gs before hval0 hW hc hL hS
  have hval : ∀ (j : Nat) t v, Tryz.f5.params[j]? = some t → args[j]? = some v → Value.okWide Tryz.prog W .any base t v := hval0
  have hW' := hW
  obtain ⟨p, q, hA0, hV, rfl, _, _⟩ := hW
  have hA : DataW.TrodAll enc Tryz.prog W 0 (fun _ => true) true Tryz.f5.params.toList args.toList ds p := hA0
  rw [Tryz.params5] at hA hval
  obtain ⟨v0, d0, rfl, rfl, h0⟩ := trodAll_one hA
  obtain ⟨rfl, rfl⟩ := trodVars_none hV
  obtain ⟨x, rfl, rfl, rfl, wx⟩ := open_int Tryz.underlying3 (hval 0 3 v0 rfl rfl) h0
  simp only [List.append_nil] at hW'
  refine (walk x hS (two_of hL)).mono fun e W' ⟨he, hk⟩ => ?_
  subst he
  exact ⟨_, rfl, _, _, _, [], [], [], hW', trodAll_mk1 (shut_bool Tryz.underlying4 _), trodAll_mk1 (shut_int Tryz.underlying3 wx), rfl, hk.keptBut _, fun h => by cases h⟩
theorem over : Rows.SoundWrongSaid :=
  OpenClaim.holds_of_wide 5 Tryz.f5 rfl rfl rfl rfl rfl rfl rfl ⟨rfl, rfl, rfl, rfl, rfl⟩ rfl rfl rfl rfl rfl (by kernel_rfl) Tryz.func5 (by kernel_rfl)
    (of_decide_eq_true (by kernel_rfl)) (by unfold Func.isWrapper; first | (rw [if_pos (by decide +kernel)]; kernel_rfl) | (rw [if_neg (by decide +kernel)]; exact ⟨rfl, rfl⟩))
    (fun os started H enc _ => lifted os started H enc)
end Go.Proofs.YtllbfabgglneeaaGreatDoor.SoundWrongProof
namespace Go.Proofs.YtllbfabgglneeaaGreatDoor
open Go SoundWrongProof
theorem soundWrong_card_holds : Rows.SoundWrongCardSaid :=
  Claim7.holds_tied_plain_at .later [] [.data, .data, .data, .data, .sentinel, .sentinel, .pinned] true (true, "96ac4ed1abce56927af005d9f006e552418beb31815a0511857d7affd94f2447") true
    over (fun _ h => by cases h) (by kernel_rfl) (fun _ h => by cases h) soundWrong_row_tie rfl ⟨rfl, rfl⟩ (by kernel_rfl) rfl
    (fun f fn hf hfn => by
      obtain rfl : f = 5 := Option.some.inj ((show Tryz.prog.funcNamed "refectory/refectorylaw10.SoundWrong" = some 5 by kernel_rfl).symm.trans hf) |>.symm
      obtain rfl : fn = Tryz.f5 := (Option.some.inj (Tryz.func5.symm.trans hfn)).symm
      exact ⟨by kernel_rfl, fun j t ht => by
        rw [Tryz.params5] at ht
        have hm : t ∈ [3] := by simpa using Array.mem_of_getElem? ht
        have hall : ([3].all fun u => !Tryz.prog.wantsStandIn u) = true := by kernel_rfl
        exact (show Tryz.prog.wantsStandIn t = false by simpa using List.all_eq_true.1 hall t hm)⟩)
    (by kernel_rfl)
#print axioms soundWrong_card_holds
end Go.Proofs.YtllbfabgglneeaaGreatDoor
