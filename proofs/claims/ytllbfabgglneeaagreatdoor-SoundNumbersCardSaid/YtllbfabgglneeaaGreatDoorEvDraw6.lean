/- DERIVED. Regions whose order is open: whatever order. -/
import Derived.Test.YtllbfabgglneeaaGreatDoorEvDraw5
set_option linter.unusedVariables false
set_option linter.unusedSimpArgs false
namespace Go.Ev
section
variable {P : Program} {C : Ctx} {call : CallF} {ops : Array Oper} {rows quiet effs : List Row}

def und (listed : Array Bool) : Nat := listed.toList.countP (!·)
theorem und_set {listed : Array Bool} {i : Nat} (hi : i < listed.size) (h : ¬ done listed i) : und (listed.setIfInBounds i true) + 1 = und listed := by
  unfold und
  rw [Array.toList_setIfInBounds, List.countP_set (by simpa using hi)]
  have hf : listed.toList[i] = false := by
    unfold done at h
    rw [Array.getD_eq_getD_getElem?, Array.getElem?_eq_getElem hi] at h
    simpa using h
  have hpos : 0 < listed.toList.countP (!·) := List.countP_pos_iff.2 ⟨false, by rw [← hf]; exact List.getElem_mem _, rfl⟩
  rw [hf]
  simp only [Bool.not_false, if_true, Bool.not_true, Bool.false_eq_true, if_false]
  omega
theorem und_zero {listed : Array Bool} (h : und listed = 0) {i : Nat} (hi : i < listed.size) : done listed i := by
  unfold und at h
  rw [List.countP_eq_zero] at h
  have := h listed[i] (by simp)
  unfold done
  rw [Array.getD_eq_getD_getElem?, Array.getElem?_eq_getElem hi]
  simpa using this
theorem mem_ready' {listed : Array Bool} (hs : listed.size = ops.size) {i : Nat} : i ∈ Region.ready .any ops listed ↔ ∃ o, ops[i]? = some o ∧ ¬ done listed i ∧ ∀ e ∈ o.after.toList, Region.binds .any e = true → done listed e.on := by
  unfold Region.ready done
  simp only [List.mem_filter, List.mem_range, Bool.and_eq_true, Bool.not_eq_true']
  constructor
  · rintro ⟨hlt, h1, h2⟩
    obtain ⟨o, ho⟩ : ∃ o, ops[i]? = some o := ⟨_, Array.getElem?_eq_getElem hlt⟩
    refine ⟨o, ho, ?_, fun e he hb => ?_⟩
    · rw [Array.getD_eq_getD_getElem?, Array.getElem?_eq_getElem (by omega)] at h1 ⊢
      simp at h1 ⊢; exact h1
    · rw [ho] at h2
      simp only [Option.map_some, Option.getD_some] at h2
      have := Array.all_eq_true_iff_forall_mem.1 h2 e (by simpa using he)
      simpa [hb] using this
  · rintro ⟨o, ho, h1, h2⟩
    have hlt := (Array.getElem?_eq_some_iff.1 ho).1
    refine ⟨hlt, ?_, ?_⟩
    · rw [Array.getD_eq_getD_getElem?, Array.getElem?_eq_getElem (by omega)] at h1 ⊢
      simp at h1 ⊢; exact h1
    · rw [ho]
      simp only [Option.map_some, Option.getD_some]
      refine Array.all_eq_true_iff_forall_mem.2 fun e he => ?_
      cases hb : Region.binds .any e with
      | false => rfl
      | true => have := h2 e (by simpa using he) hb; simp [this]
theorem ready_done (hR : Reg C ops rows quiet effs) {listed : Array Bool} (hs : listed.size = ops.size) (h : Region.ready .any ops listed = []) : ∀ i, i < ops.size → done listed i := by
  intro i
  induction i using Nat.strongRecOn with
  | _ i ih =>
    intro hi
    apply Classical.byContradiction
    intro hd
    obtain ⟨r, hr, hno⟩ := hR.are.all i (by simpa using hi)
    subst hno
    have his := hR.are.is r hr
    have : r.no ∈ Region.ready .any ops listed := (mem_ready' hs).2 ⟨r.o, by simpa using his.o, hd, fun e he hb => by
      have h1 := List.all_eq_true.1 (List.all_eq_true.1 hR.back r hr) e he
      simp [hb] at h1
      have hlt : e.on < r.no := h1
      exact ih e.on hlt (by omega)⟩
    rw [h] at this; cases this
theorem chain_prev : ∀ (A : List Row) {l B : List Row} {b q : Row}, chainOk l = true → l = A ++ b :: q :: B → q.wait.testBit b.no = true
  | [], l, B, b, q, h, e => by
    subst e
    simp only [List.nil_append, chainOk, Bool.and_eq_true] at h
    exact h.1
  | a :: A, l, B, b, q, h, e => by
    subst e
    refine chain_prev A (l := A ++ b :: q :: B) ?_ rfl
    cases hA : A ++ b :: q :: B with
    | nil => simp at hA
    | cons x y =>
      rw [List.cons_append, hA] at h
      simp only [chainOk, Bool.and_eq_true] at h
      exact h.2
theorem apart_of {pre es : List Row} (h : (pre ++ es).Pairwise fun r q => r.no ≠ q.no) {r q : Row} (hr : r ∈ pre) (hq : q ∈ es) : r.no ≠ q.no := (List.pairwise_append.1 h).2.2 r hr q hq
theorem count_le {pre es : List Row} (h : (pre ++ es).Pairwise fun r q => r.no ≠ q.no) {r : Row} (hw : ∀ e ∈ pre ++ es, r.wait.testBit e.no = true → e ∈ pre) : countEff (pre ++ es) r ≤ pre.length := by
  unfold countEff
  rw [List.filter_append, List.length_append]
  have : es.filter (fun e => r.wait.testBit e.no) = [] := by
    rw [List.filter_eq_nil_iff]
    intro e he hb
    exact apart_of h (hw e (by simp [he]) hb) he rfl
  rw [this, List.length_nil, Nat.add_zero]
  exact List.length_filter_le _ _
end
end Go.Ev
