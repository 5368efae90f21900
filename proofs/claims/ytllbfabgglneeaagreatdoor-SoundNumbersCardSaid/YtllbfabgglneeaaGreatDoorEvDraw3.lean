/- DERIVED. Regions whose order is open: an operation in an environment that holds no more than it looks at. -/
import Derived.Test.YtllbfabgglneeaaGreatDoorEvDraw2
set_option linter.unusedVariables false
set_option linter.unusedSimpArgs false
namespace Go.Ev
section
variable {P : Program} {C : Ctx} {call : CallF}

def maskV : List Tmp → Env → Env
  | [], v => v
  | t :: S, v => maskV S (setT v t (.tup []))
def maskA : List Tmp → Act → Act
  | [], a => a
  | t :: S, a => maskA S (a.put (some t) undef)
theorem den_setT {v : Env} {t : Nat} (x : IV) {y : Od} (hy : t ∉ odTmps y) : y.den (setT v t x) = y.den v := by
  cases y with
  | c z => rfl
  | t a b =>
    simp only [odTmps, List.mem_singleton] at hy
    simp only [Od.den, setT]
    rw [List.getElem?_set]
    by_cases e : t / 8 = a
    · rw [if_pos e]
      subst e
      split
      · rename_i hlt
        have hb : t % 8 ≠ b := fun e => hy (by omega)
        rw [List.getElem?_eq_getElem hlt]
        simp [List.getElem?_set, hb]
      · rename_i hlt
        rw [List.getElem?_eq_none (by omega)]
    · rw [if_neg e]
theorem mask_den : ∀ (S : List Tmp) {v : Env} {y : Od}, (∀ t ∈ S, t ∉ odTmps y) → y.den (maskV S v) = y.den v
  | [], v, y, _ => rfl
  | t :: S, v, y, h => (mask_den S fun u hu => h u (by simp [hu])).trans (den_setT _ (h t (by simp)))
theorem mask_at : ∀ (S : List Tmp) {v : Env} {u : Nat}, u ∉ S → (∀ t ∈ S, ∃ y, v.at t = some y) → (maskV S v).at u = v.at u
  | [], v, u, _, _ => rfl
  | t :: S, v, u, h, hd => by
    have ht := hd t (by simp)
    rw [maskV, mask_at S (fun hu => h (by simp [hu])) fun q hq => ?_, at_setT ht, if_neg (fun e => h (by simp [e]))]
    rw [at_setT ht]
    split
    · exact ⟨_, rfl⟩
    · exact hd q (by simp [hq])
theorem mask_rel {ρ : Rho} : ∀ (S : List Tmp) {v : Env} {a : Act}, (∀ t ∈ S, ∃ y, v.at t = some y) → (∀ t x, v.at t = some x → t < a.tmps.size ∧ (t ∈ S ∨ conc ρ x = some (a.tmps.getD t undef))) → EnvRel ρ (maskV S v) (maskA S a).tmps
  | [], v, a, _, h => fun t x ht => ⟨(h t x ht).1, (h t x ht).2.resolve_left (by simp)⟩
  | t :: S, v, a, hd, h => by
    have ht := hd t (by simp)
    refine mask_rel S (fun q hq => ?_) fun u x hu => ?_
    · rw [at_setT ht]
      split
      · exact ⟨_, rfl⟩
      · exact hd q (by simp [hq])
    · rw [at_setT ht] at hu
      simp only [Act.put, Array.size_setIfInBounds]
      by_cases e : u = t
      · subst e
        rw [if_pos rfl] at hu; cases hu
        obtain ⟨y, hy⟩ := ht
        have hlt := (h u y hy).1
        exact ⟨hlt, .inr (by rw [conc_undef]; simp [hlt])⟩
      · rw [if_neg e] at hu
        obtain ⟨h1, h2⟩ := h u x hu
        refine ⟨h1, ?_⟩
        rcases h2 with h2 | h2
        · rcases List.mem_cons.1 h2 with h2 | h2
          · exact absurd h2 e
          · exact .inl h2
        · refine .inr ?_
          rw [Array.getD_eq_getD_getElem?, Array.getElem?_setIfInBounds_ne (Ne.symm e), ← Array.getD_eq_getD_getElem?]; exact h2
theorem mask_exec {ops : Array Oper} {o : Oper} (hs : ∀ cs b, o.op ≠ .select cs b) : ∀ (S : List Tmp) (a : Act), (∀ t ∈ S, t ∉ o.looksAt ops) → execOp (maskA S a).eval o = execOp a.eval o
  | [], a, _ => rfl
  | t :: S, a, h => (mask_exec hs S _ fun u hu => h u (by simp [hu])).trans (execOp_put (ops := ops) o hs a (some t) undef fun d hd => by cases hd; exact h t (by simp))
/-- The temporaries but those of a list. -/
def others (v : Env) (l : List Tmp) : List Tmp := (List.range (8 * v.length)).filter fun t => !l.contains t && (v.at t).isSome
theorem mem_others {v : Env} {l : List Tmp} {t : Nat} : t ∈ others v l ↔ t ∉ l ∧ ∃ y, v.at t = some y := by
  simp only [others, List.mem_filter, List.mem_range, Bool.and_eq_true, Bool.not_eq_true', List.contains_eq_mem, decide_eq_false_iff_not, Option.isSome_iff_exists]
  constructor
  · rintro ⟨_, h1, h2⟩; exact ⟨h1, h2⟩
  · rintro ⟨h1, y, hy⟩
    refine ⟨?_, h1, y, hy⟩
    unfold Env.at at hy
    cases hl : v[t / 8]? with
    | none => simp [hl] at hy
    | some l =>
      have := (List.getElem?_eq_some_iff.1 hl).1
      omega
theorem comp_noselect {o : Oper} {c : Co} (h : compO C o.op = some c) : ∀ cs b, o.op ≠ .select cs b := fun cs b e => by simp [compO, e] at h
/-- An operation, where no more is known than what it looks at. -/
theorem op_looks (hC : CtxOk P C) (hcall : CallOk P C call) {ops : Array Oper} {o : Oper} {c : Co} (h : compO C o.op = some c) {v : Env} {s : St} {k : KO} {looks : List Tmp}
    (h1 : ∀ t ∈ o.looksAt ops, t ∈ looks) (h2 : ∀ x ∈ c.ods, ∀ t ∈ odTmps x, t ∈ looks) (hk : opK c call v s k = true) :
    ∃ x s', k x s' = true ∧ s.nx.num ≤ s'.nx.num ∧ ∀ (ρ : Rho) (a : Act) (w : World), Glob C ρ → (∀ t y, v.at t = some y → t < a.tmps.size ∧ (t ∈ looks → conc ρ y = some (a.tmps.getD t undef))) → MemRel ρ s w → NoDom ρ s s' →
      OpWp P o a w fun xv w' => ∃ ρ', conc ρ' x = some xv ∧ Step ρ s w ρ' s' w' := by
  have hden : ∀ x ∈ c.ods, x.den (maskV (others v looks) v) = x.den v := fun x hx => mask_den _ fun t ht hin => (mem_others.1 ht).1 (h2 x hx t hin)
  rw [← opK_congr c hden] at hk
  obtain ⟨x, s', hk', hs⟩ := op_sound hC hcall h hk
  refine ⟨x, s', hk', hs.nx, fun ρ a w hg he hm hn => ?_⟩
  have hrel : EnvRel ρ (maskV (others v looks) v) (maskA (others v looks) a).tmps := mask_rel _ (fun t ht => (mem_others.1 ht).2) fun t y hy => by
    obtain ⟨q1, q2⟩ := he t y hy
    refine ⟨q1, ?_⟩
    by_cases hin : t ∈ looks
    · exact .inr (q2 hin)
    · exact .inl (mem_others.2 ⟨hin, y, hy⟩)
  have := hs.run ρ (maskA (others v looks) a) w hg hrel hm hn
  unfold OpWp at this ⊢
  rwa [mask_exec (ops := ops) (comp_noselect h) _ a fun t ht hin => (mem_others.1 ht).1 (h1 t hin)] at this
end
end Go.Ev
