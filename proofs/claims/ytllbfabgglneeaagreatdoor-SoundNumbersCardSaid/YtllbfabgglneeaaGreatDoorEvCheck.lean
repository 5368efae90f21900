/- DERIVED. What is asked of the tables, as a Bool. -/
import Derived.Test.YtllbfabgglneeaaGreatDoorEvTable
set_option linter.unusedVariables false
namespace Go.Ev
def isAggV : Value → Bool
  | .agg _ => true
  | _ => false
def tiCheck (P : Program) (t : TypeId) (i : TI) : Bool := match P.underlying t, P.info? t with
  | some u, some f => i.d.ok u && Nat.beq f.size i.size && Nat.beq f.bytes i.bytes &&
    (match f.zero with
      | some z => (match lits z.cells.toList with | some l => IV.sames l i.zero | none => false) && Nat.beq z.cells.size i.size && (isAggV z == i.d.agg)
      | none => false) && (i.d.agg || Nat.beq i.size 1) &&
    (match u with | .struct fs => fs.toList.all fun f => (P.info? f.type).isSome | _ => true)
  | _, _ => false
theorem tiCheck_ok {P : Program} {t : TypeId} {i : TI} (h : tiCheck P t i = true) : TIok P t i := by
  unfold tiCheck at h
  split at h
  · rename_i u f hu hf
    simp only [Bool.and_eq_true] at h
    obtain ⟨⟨⟨⟨⟨h1, h2⟩, h3⟩, h4⟩, h5⟩, h6⟩ := h
    refine ⟨⟨u, hu, h1⟩, ⟨f, hf, Nat.eq_of_beq_eq_true h2, Nat.eq_of_beq_eq_true h3, ?_⟩, fun ha => ?_, fun fs hfs g hg => ?_⟩
    · split at h4
      · rename_i z hz
        simp only [Bool.and_eq_true] at h4
        obtain ⟨⟨g1, g2⟩, g3⟩ := h4
        split at g1
        · rename_i l hl
          have e := IV.sames_eq g1
          subst e
          refine ⟨z, hz, hl, Nat.eq_of_beq_eq_true g2, fun ha => ?_, fun ha cs hcs => ?_⟩
          · rw [ha] at g3
            cases z <;> simp [isAggV] at g3
            exact ⟨_, rfl⟩
          · subst hcs; rw [ha] at g3; simp [isAggV] at g3
        · cases g1
      · cases h4
    · simp [ha] at h5; exact h5
    · rw [hu] at hfs; cases hfs
      simp only at h6
      exact Option.isSome_iff_exists.1 (List.all_eq_true.1 h6 g hg)
  · cases h
end Go.Ev
