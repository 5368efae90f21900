/- DERIVED. Regions whose order is open: who waits for whom. -/
import Derived.Test.YtllbfabgglneeaaGreatDoorEvAlloc
set_option linter.unusedVariables false
set_option linter.unusedSimpArgs false
namespace Go.Ev
section
variable {P : Program} {C : Ctx} {call : CallF}

def done (listed : Array Bool) (i : Nat) : Prop := listed.getD i false = true
/-- Whoever is done, what it waits for is done. -/
def Closed (ops : List Oper) (listed : Array Bool) : Prop := ∀ i o, ops[i]? = some o → done listed i → ∀ e ∈ o.after.toList, Region.binds .any e = true → done listed e.on

theorem waitAll_spec : ∀ (l : List Oper) (acc : List Nat), ∃ W : List Nat, waitAll l acc = acc ++ W ∧ W.length = l.length ∧ ∀ i o, l[i]? = some o → (acc ++ W)[acc.length + i]? = some (waitBits ((acc ++ W).take (acc.length + i)) o.after.toList)
  | [], acc => ⟨[], by simp [waitAll], rfl, fun i o h => by simp at h⟩
  | o :: r, acc => by
    obtain ⟨W, h1, h2, h3⟩ := waitAll_spec r (acc ++ [waitBits acc o.after.toList])
    refine ⟨waitBits acc o.after.toList :: W, by simp [waitAll, h1], by simp [h2], fun i q hi => ?_⟩
    have e : acc ++ waitBits acc o.after.toList :: W = acc ++ [waitBits acc o.after.toList] ++ W := by simp
    cases i with
    | zero =>
      simp at hi; subst hi
      simp
    | succ i =>
      have := h3 i q (by simpa using hi)
      rw [e, show acc.length + (i + 1) = (acc ++ [waitBits acc o.after.toList]).length + i by simp; omega]
      exact this
theorem pow_testBit (n j : Nat) : (Nat.pow 2 n).testBit j = decide (n = j) := Nat.testBit_two_pow
theorem waitBits_iff (acc : List Nat) (j : Nat) : ∀ (l : List Edge), (waitBits acc l).testBit j = true ↔ ∃ e ∈ l, Region.binds .any e = true ∧ (j = e.on ∨ (acc.getD e.on 0).testBit j = true)
  | [] => by simp [waitBits]
  | e :: l => by
    simp only [waitBits]
    split
    · rename_i hb
      rw [show Nat.lor (Nat.lor (Nat.pow 2 e.on) (acc.getD e.on 0)) (waitBits acc l) = (Nat.pow 2 e.on ||| acc.getD e.on 0) ||| waitBits acc l from rfl]
      rw [Nat.testBit_or, Nat.testBit_or, pow_testBit, Bool.or_eq_true, Bool.or_eq_true, waitBits_iff acc j l]
      simp only [decide_eq_true_eq, List.mem_cons, exists_eq_or_imp, hb, true_and]
      constructor
      · rintro ((h | h) | h)
        · exact .inl (.inl h.symm)
        · exact .inl (.inr h)
        · exact .inr h
      · rintro ((h | h) | h)
        · exact .inl (.inl h.symm)
        · exact .inl (.inr h)
        · exact .inr h
    · rename_i hb
      rw [waitBits_iff acc j l]
      constructor
      · rintro ⟨e', he', h⟩; exact ⟨e', by simp [he'], h⟩
      · rintro ⟨e', he', h⟩
        rcases List.mem_cons.1 he' with rfl | he'
        · exact absurd h.1 hb
        · exact ⟨e', he', h⟩
/-- What an operation waits for, where what it waits for next is done. -/
theorem wait_done {ops : List Oper} {listed : Array Bool} (hc : Closed ops listed) : ∀ (i : Nat) (o : Oper) (b : Nat), ops[i]? = some o → (waitAll ops [])[i]? = some b → (∀ e ∈ o.after.toList, Region.binds .any e = true → done listed e.on) → ∀ j, b.testBit j = true → done listed j := by
  obtain ⟨W, h1, h2, h3⟩ := waitAll_spec ops []
  simp only [List.nil_append, List.length_nil, Nat.zero_add] at h1 h3
  intro i
  induction i using Nat.strongRecOn with
  | _ i ih =>
    intro o b ho hb ha j hj
    rw [h1, h3 i o ho] at hb
    cases hb
    rw [waitBits_iff] at hj
    obtain ⟨e, he, hbi, hj⟩ := hj
    have hd := ha e he hbi
    rcases hj with rfl | hj
    · exact hd
    · by_cases hlt : e.on < i
      · have hin : (W.take i)[e.on]? = W[e.on]? := by rw [List.getElem?_take, if_pos hlt]
        cases hw : W[e.on]? with
        | none => rw [List.getD_eq_getElem?_getD, hin, hw] at hj; simp at hj
        | some b' =>
          rw [List.getD_eq_getElem?_getD, hin, hw, Option.getD_some] at hj
          have hlt2 : e.on < ops.length := by rw [← h2]; exact (List.getElem?_eq_some_iff.1 hw).1
          exact ih e.on hlt ops[e.on] b' (List.getElem?_eq_getElem hlt2) (by rw [h1]; exact hw) (hc e.on _ (List.getElem?_eq_getElem hlt2) hd) j hj
      · have : (W.take i)[e.on]? = none := List.getElem?_eq_none (by simp; omega)
        rw [List.getD_eq_getElem?_getD, this] at hj; simp at hj

/-! ### Rows -/
structure RowIs (C : Ctx) (ops : List Oper) (r : Row) : Prop where
  o : ops[r.no]? = some r.o
  wait : (waitAll ops [])[r.no]? = some r.wait
  comp : compOp C ops r.o = some r.c
  eff : r.eff = !(isQuiet r.c.o || isAlloc r.c.o)
theorem compOps_get {ops : List Oper} : ∀ {l : List Oper} {cs : List Cop}, compOps C ops l = some cs → cs.length = l.length ∧ ∀ (i : Nat) (o : Oper), l[i]? = some o → ∃ c, cs[i]? = some c ∧ compOp C ops o = some c
  | [], cs, h => by simp [compOps] at h; subst h; exact ⟨rfl, fun i o h => by simp at h⟩
  | o :: r, cs, h => by
    simp only [compOps] at h
    split at h <;> cases h
    rename_i a b ha hb
    obtain ⟨h1, h2⟩ := compOps_get hb
    refine ⟨by simp [h1], fun i q hi => ?_⟩
    cases i with
    | zero => simp at hi; subst hi; exact ⟨a, rfl, ha⟩
    | succ i => simpa using h2 i q (by simpa using hi)
theorem rowsOf_spec : ∀ (i : Nat) (bs : List Nat) (os : List Oper) (cs : List Cop), bs.length = os.length → cs.length = os.length →
    (rowsOf i bs os cs).length = os.length ∧ ∀ (j : Nat) (o : Oper), os[j]? = some o → ∃ b c, bs[j]? = some b ∧ cs[j]? = some c ∧ (rowsOf i bs os cs)[j]? = some ⟨i + j, b, !(isQuiet c.o || isAlloc c.o), o, c⟩
  | i, [], [], cs, _, _ => ⟨by cases cs <;> rfl, fun j o h => by simp at h⟩
  | i, b :: bs, o :: os, [], _, h => by simp at h
  | i, [], o :: os, cs, h, _ => by simp at h
  | i, b :: bs, [], cs, h, _ => by simp at h
  | i, b :: bs, o :: os, c :: cs, h1, h2 => by
    obtain ⟨g1, g2⟩ := rowsOf_spec (i + 1) bs os cs (by simpa using h1) (by simpa using h2)
    refine ⟨by simp [rowsOf, g1], fun j q hj => ?_⟩
    cases j with
    | zero => simp at hj; subst hj; exact ⟨b, c, rfl, rfl, rfl⟩
    | succ j =>
      obtain ⟨b', c', h3, h4, h5⟩ := g2 j q (by simpa using hj)
      exact ⟨b', c', by simpa using h3, by simpa using h4, by simp [rowsOf, h5]; omega⟩
/-- The rows of a region. -/
structure RowsAre (C : Ctx) (ops : List Oper) (rows : List Row) : Prop where
  is : ∀ r ∈ rows, RowIs C ops r
  all : ∀ i, i < ops.length → ∃ r ∈ rows, r.no = i
  one : ∀ r ∈ rows, ∀ q ∈ rows, r.no = q.no → r = q
  nodup : rows.Pairwise fun r q => r.no ≠ q.no
theorem rows_are {ops : List Oper} {cs : List Cop} (h : compOps C ops ops = some cs) : RowsAre C ops (rowsOf 0 (waitAll ops []) ops cs) := by
  obtain ⟨W, h1, h2, h3⟩ := waitAll_spec ops []
  simp only [List.nil_append] at h1
  obtain ⟨hc1, hc2⟩ := compOps_get h
  obtain ⟨g1, g2⟩ := rowsOf_spec 0 (waitAll ops []) ops cs (by rw [h1, h2]) hc1
  have key : ∀ r ∈ rowsOf 0 (waitAll ops []) ops cs, ∃ j : Nat, (rowsOf 0 (waitAll ops []) ops cs)[j]? = some r ∧ r.no = j ∧ RowIs C ops r := by
    intro r hr
    obtain ⟨j, hj⟩ := List.getElem?_of_mem hr
    have hlt : j < ops.length := by rw [← g1]; exact (List.getElem?_eq_some_iff.1 hj).1
    obtain ⟨b, c, q1, q2, q3⟩ := g2 j _ (List.getElem?_eq_getElem hlt)
    rw [hj] at q3
    have e := Option.some.inj q3
    subst e
    obtain ⟨c', q4, q5⟩ := hc2 j _ (List.getElem?_eq_getElem hlt)
    rw [q2] at q4; cases q4
    exact ⟨j, hj, by simp, ⟨by simp [List.getElem?_eq_getElem hlt], by simp [q1], q5, rfl⟩⟩
  refine ⟨fun r hr => (key r hr).choose_spec.2.2, fun i hi => ?_, fun r hr q hq e => ?_, ?_⟩
  · obtain ⟨b, c, _, _, q3⟩ := g2 i _ (List.getElem?_eq_getElem hi)
    exact ⟨_, List.mem_of_getElem? q3, by simp⟩
  · obtain ⟨j, hj, hjn, _⟩ := key r hr
    obtain ⟨j', hj', hjn', _⟩ := key q hq
    have : j = j' := by omega
    subst this
    rw [hj] at hj'; exact Option.some.inj hj'
  · rw [List.pairwise_iff_getElem]
    intro i j hi hj hij
    have no : ∀ (i : Nat) (hi : i < (rowsOf 0 (waitAll ops []) ops cs).length), (rowsOf 0 (waitAll ops []) ops cs)[i].no = i := fun i hi => by
      have hlt : i < ops.length := by rw [← g1]; exact hi
      obtain ⟨b, c, _, _, q3⟩ := g2 i _ (List.getElem?_eq_getElem hlt)
      rw [List.getElem?_eq_getElem hi] at q3
      rw [Option.some.inj q3]; simp
    rw [no i hi, no j hj]; omega
end
end Go.Ev
