/- DERIVED. Regions in text order: the ideal machine's against the model's. -/
import Derived.Test.YtllbfabgglneeaaGreatDoorEvSound
set_option linter.unusedVariables false
set_option linter.unusedSimpArgs false
namespace Go.Ev
section
variable {P : Program} {C : Ctx} {call : CallF}

/-! ### Temporaries -/
def setT (v : Env) (t : Nat) (x : IV) : Env := List.set v (t / 8) ((v[t / 8]?.getD []).set (t % 8) x)
theorem at_setT {v : Env} {t : Nat} (h : ∃ y, v.at t = some y) (x : IV) (u : Nat) : Env.at (setT v t x) u = if u = t then some x else v.at u := by
  obtain ⟨y, hy⟩ := h
  unfold Env.at at hy
  cases hl : v[t / 8]? with
  | none => simp [hl] at hy
  | some l =>
    simp [hl] at hy
    have h1 := (List.getElem?_eq_some_iff.1 hl).1
    have h2 := (List.getElem?_eq_some_iff.1 hy).1
    unfold Env.at setT
    rw [hl, List.getElem?_set]
    by_cases e : t / 8 = u / 8
    · rw [if_pos e, if_pos h1]
      simp only [Option.getD_some, Option.bind_some, List.getElem?_set]
      by_cases e2 : t % 8 = u % 8
      · have : u = t := by omega
        subst this
        simp [h2]
      · have : u ≠ t := fun e3 => by subst e3; exact e2 rfl
        rw [if_neg e2, if_neg this, ← e, hl]; rfl
    · have : u ≠ t := fun e3 => by subst e3; exact e rfl
      rw [if_neg e, if_neg this]
/-- A value put into a destination. -/
def putD (v : Env) (d : Option Tmp) (x : IV) : Env := match d with
  | none => v
  | some t => setT v t x
theorem putK_iff (v : Env) (d : Option Tmp) (x : IV) (k : Env → Bool) : putK v (ds d) x k = true ↔ (∀ t, d = some t → ∃ y, v.at t = some y) ∧ k (putD v d x) = true := by
  cases d with
  | none => exact ⟨fun h => ⟨fun t e => (by cases e), h⟩, fun h => h.2⟩
  | some t =>
    have h1 : putK v (ds (some t)) x k = nthK v (t / 8) (fun l => updK x l (t % 8) (fun l' => updK l' v (t / 8) k)) := rfl
    rw [h1, nthK_iff]
    simp only [updK_iff, putD, Option.some.injEq, forall_eq']
    constructor
    · rintro ⟨l, hl, h2, h3, hk⟩
      refine ⟨⟨l[t % 8], ?_⟩, ?_⟩
      · simp [Env.at, hl, h2]
      · simpa [setT, hl] using hk
    · rintro ⟨⟨y, hy⟩, hk⟩
      unfold Env.at at hy
      cases hl : v[t / 8]? with
      | none => simp [hl] at hy
      | some l =>
        simp [hl] at hy
        exact ⟨l, rfl, (List.getElem?_eq_some_iff.1 hy).1, (List.getElem?_eq_some_iff.1 hl).1, by simpa [setT, hl] using hk⟩
theorem EnvRel.put {ρ : Rho} {v : Env} {a : Act} {d : Option Tmp} {x : IV} {u : Value} (h : EnvRel ρ v a.tmps) (hd : ∀ t, d = some t → ∃ y, v.at t = some y) (hx : conc ρ x = some u) : EnvRel ρ (putD v d x) (a.put d u).tmps := by
  cases d with
  | none => exact h
  | some t =>
    obtain ⟨y, hy⟩ := hd t rfl
    have hlt := (h t y hy).1
    intro q z hq
    simp only [putD] at hq
    rw [at_setT ⟨y, hy⟩] at hq
    simp only [Act.put, Array.size_setIfInBounds]
    by_cases e : q = t
    · subst e
      rw [if_pos rfl] at hq; cases hq
      exact ⟨hlt, by simpa [hlt] using hx⟩
    · rw [if_neg e] at hq
      obtain ⟨h1, h2⟩ := h q z hq
      refine ⟨h1, ?_⟩
      rw [Array.getD_eq_getD_getElem?, Array.getElem?_setIfInBounds_ne (Ne.symm e), ← Array.getD_eq_getD_getElem?]; exact h2
theorem put_size (a : Act) (d : Option Tmp) (u : Value) : (a.put d u).tmps.size = a.tmps.size := by cases d <;> simp [Act.put]
theorem put_defers (a : Act) (d : Option Tmp) (u : Value) : (a.put d u).defers = a.defers := by cases d <;> rfl

/-! ### Guards -/
/-- Is an operation wanted? -/
def Wants (v : Env) (ops : Array Oper) : Option (Nat × Bool) → Bool → Prop
  | none, r => r = true
  | some (j, w), r => ∃ o t x, ops[j]? = some o ∧ o.dst = some t ∧ v.at t = some x ∧ ((∃ b, x = .bool b ∧ r = (b == w)) ∨ (x = .tup [] ∧ r = false))
theorem wantK_iff {v : Env} {ops : Array Oper} {gu : Option (Nat × Bool)} {g : Gd} (hg : gd ops.toList gu = some g) (yes no : Bool) : wantK v g yes no = true → (Wants v ops gu true ∧ yes = true) ∨ (Wants v ops gu false ∧ no = true) := by
  intro h
  cases gu with
  | none => simp [gd] at hg; subst hg; exact .inl ⟨rfl, h⟩
  | some p =>
    obtain ⟨j, w⟩ := p
    simp only [gd] at hg
    split at hg
    · rename_i o ho
      split at hg <;> cases hg
      rename_i t ht
      have ho' : ops[j]? = some o := by simpa using ho
      have h1 : nthK v (t / 8) (fun l => nthK l (t % 8) (fun x => guardV x no (fun b => boolK b (boolK w yes no) (boolK w no yes)))) = true := h
      simp only [nthK_iff, guardV_iff] at h1
      obtain ⟨l, hl, x, hx, h1⟩ := h1
      have hat : v.at t = some x := by simp [Env.at, hl, hx]
      rcases h1 with ⟨b, rfl, h1⟩ | ⟨rfl, hno⟩
      · cases b <;> cases w <;> simp [boolK] at h1
        · exact .inl ⟨⟨o, t, _, ho', ht, hat, .inl ⟨false, rfl, rfl⟩⟩, h1⟩
        · exact .inr ⟨⟨o, t, _, ho', ht, hat, .inl ⟨false, rfl, rfl⟩⟩, h1⟩
        · exact .inr ⟨⟨o, t, _, ho', ht, hat, .inl ⟨true, rfl, rfl⟩⟩, h1⟩
        · exact .inl ⟨⟨o, t, _, ho', ht, hat, .inl ⟨true, rfl, rfl⟩⟩, h1⟩
      · exact .inr ⟨⟨o, t, _, ho', ht, hat, .inr ⟨rfl, rfl⟩⟩, hno⟩
    · cases hg
theorem Wants.model {ρ : Rho} {v : Env} {a : Act} {ops : Array Oper} {o : Oper} {r : Bool} (h : Wants v ops o.guard r) (he : EnvRel ρ v a.tmps) : Region.wanted o (yielded ops a.tmps) = r := by
  unfold Region.wanted
  cases hg : o.guard with
  | none => rw [hg] at h; exact h.symm
  | some p =>
    obtain ⟨j, w⟩ := p
    rw [hg] at h
    obtain ⟨oj, t, x, hj, ht, hx, h⟩ := h
    obtain ⟨hlt, hc⟩ := he t x hx
    have hget : a.tmps[t]? = some (a.tmps.getD t undef) := by simp [hlt]
    simp only [yielded, hj, Option.bind_some, ht, hget]
    rcases h with ⟨b, rfl, rfl⟩ | ⟨rfl, rfl⟩
    · rw [bool_inv hc]; cases b <;> cases w <;> rfl
    · have : a.tmps.getD t undef = undef := by rw [conc_undef] at hc; exact (Option.some.inj hc).symm
      rw [this]; cases w <;> rfl

/-- What is so behind a piece of code. -/
structure Out (ρ : Rho) (s : St) (w : World) (a : Act) (v' : Env) (s' : St) (a' : Act) (w' : World) : Prop where
  ex : ∃ ρ', EnvRel ρ' v' a'.tmps ∧ Step ρ s w ρ' s' w'
  defers : a'.defers = a.defers
  size : a'.tmps.size = a.tmps.size

theorem compOp_inv {ops : List Oper} {o : Oper} {c : Cop} (h : compOp C ops o = some c) : ∃ g, gd ops o.guard = some g ∧ c.g = g ∧ c.d = ds o.dst ∧ (compO C o.op = some c.o ∨ c.o = .bad) := by
  unfold compOp at h
  split at h
  · rename_i g hg
    split at h <;> cases h
    · rename_i hc; exact ⟨g, hg, rfl, rfl, .inl hc⟩
    · exact ⟨g, hg, rfl, rfl, .inr rfl⟩
  · cases h
/-- One operation. -/
theorem cop_sound (hC : CtxOk P C) (hcall : CallOk P C call) {ops : Array Oper} {o : Oper} {c : Cop} (h : compOp C ops.toList o = some c) {v : Env} {s : St} {k : Env → St → Bool}
    (hk : wantK v c.g (opK c.o call v s (fun x s' => putK v c.d x (fun v' => k v' s'))) (putK v c.d (.tup []) (fun v' => k v' s)) = true) :
    ∃ v' s', k v' s' = true ∧ s.nx.num ≤ s'.nx.num ∧ ∀ (ρ : Rho) (a : Act) (w : World) (K : Act → World → Prop) (Q : Exit → Act → World → Prop), Glob C ρ → EnvRel ρ v a.tmps → MemRel ρ s w → NoDom ρ s s' →
      (∀ a' w', Out ρ s w a v' s' a' w' → K a' w') → if Region.wanted o (yielded ops a.tmps) then o.wp P a w K Q ∨ (o.asks P a w ∧ LetsOut Q) else K (a.put o.dst undef) w := by
  obtain ⟨g, hg, hcg, hcd, hco⟩ := compOp_inv h
  rw [hcg, hcd] at hk
  rcases wantK_iff hg _ _ hk with ⟨hw, hk⟩ | ⟨hw, hk⟩
  · have hco' : compO C o.op = some c.o := by
      rcases hco with hco | hco
      · exact hco
      · rw [hco] at hk; cases hk
    obtain ⟨x, s', hk', hs⟩ := op_sound hC hcall hco' hk
    rw [putK_iff] at hk'
    refine ⟨_, s', hk'.2, hs.nx, fun ρ a w K Q hgl he hm hnd hK => ?_⟩
    rw [if_pos (hw.model he)]
    refine .inl ((hs.run ρ a w hgl he hm hnd).wp fun xv w' ⟨ρ', hx, hst⟩ => hK _ _ ⟨⟨ρ', (he.mono hst.ext).put hk'.1 hx, hst⟩, put_defers .., put_size ..⟩)
  · rw [putK_iff] at hk
    refine ⟨_, s, hk.2, Nat.le_refl _, fun ρ a w K Q hgl he hm hnd hK => ?_⟩
    rw [if_neg (by rw [hw.model he]; simp)]
    exact hK _ _ ⟨⟨ρ, he.put hk.1 (conc_undef ρ), Step.refl hm⟩, put_defers .., put_size ..⟩
theorem Out.trans {ρ : Rho} {s s1 s2 : St} {w w1 w2 : World} {a a1 a2 : Act} {v1 v2 : Env} (h : Out ρ s w a v1 s1 a1 w1) (g : ∀ ρ1, EnvRel ρ1 v1 a1.tmps → Step ρ s w ρ1 s1 w1 → Out ρ1 s1 w1 a1 v2 s2 a2 w2) : Out ρ s w a v2 s2 a2 w2 := by
  obtain ⟨ρ1, he1, hst1⟩ := h.ex
  have h2 := g ρ1 he1 hst1
  obtain ⟨ρ2, he2, hst2⟩ := h2.ex
  exact ⟨⟨ρ2, he2, hst1.trans hst2⟩, h2.defers.trans h.defers, h2.size.trans h.size⟩

theorem opsK_sound (hC : CtxOk P C) (hcall : CallOk P C call) (ops : Array Oper) : ∀ (l : List Oper) (i : Nat) (cs : List Cop), l = ops.toList.drop i → compOps C ops.toList l = some cs → ∀ (v : Env) (s : St) (k : Env → St → Bool), opsK call cs v s k = true →
    ∃ v' s', k v' s' = true ∧ s.nx.num ≤ s'.nx.num ∧ ∀ (ρ : Rho) (a : Act) (w : World) (Q : Exit → Act → World → Prop), Glob C ρ → EnvRel ρ v a.tmps → MemRel ρ s w → NoDom ρ s s' →
      (∀ a' w', Out ρ s w a v' s' a' w' → Q .normal a' w') → wpOps P ops Q (List.range' i l.length) a w
  | [], i, cs, hl, hc, v, s, k, hk => by
    simp [compOps] at hc; subst hc
    exact ⟨v, s, hk, Nat.le_refl _, fun ρ a w Q hg he hm hn hQ => hQ _ _ ⟨⟨ρ, he, Step.refl hm⟩, rfl, rfl⟩⟩
  | o :: r, i, cs, hl, hc, v, s, k, hk => by
    simp only [compOps] at hc
    split at hc
    · rename_i c cs' hc1 hc2
      cases hc
      have h1 : wantK v c.g (opK c.o call v s (fun x s' => putK v c.d x (fun v' => opsK call cs' v' s' k))) (putK v c.d (.tup []) (fun v' => opsK call cs' v' s k)) = true := hk
      obtain ⟨v1, s1, hk1, hn1, hw1⟩ := cop_sound hC hcall hc1 (k := fun v' s' => opsK call cs' v' s' k) h1
      have hr : r = ops.toList.drop (i + 1) := by
        have := congrArg List.tail hl
        simpa using this
      obtain ⟨v2, s2, hk2, hn2, hw2⟩ := opsK_sound hC hcall ops r (i + 1) cs' hr hc2 v1 s1 k hk1
      refine ⟨v2, s2, hk2, Nat.le_trans hn1 hn2, fun ρ a w Q hg he hm hn hQ => ?_⟩
      have hoi : ops[i]? = some o := by
        have : (ops.toList.drop i)[0]? = some o := by rw [← hl]; rfl
        rw [List.getElem?_drop] at this
        simpa using this
      have := hw1 ρ a w (wpOps P ops Q (List.range' (i + 1) r.length)) Q hg he hm (hn.first hn2) fun a1 w1 ho => by
        obtain ⟨ρ1, he1, hst1⟩ := ho.ex
        exact hw2 ρ1 a1 w1 Q (hg.mono hst1.ext) he1 hst1.mem (hn.next hst1) fun a2 w2 ho2 => hQ a2 w2 (by
          obtain ⟨ρ2, he2, hst2⟩ := ho2.ex
          exact ⟨⟨ρ2, he2, hst1.trans hst2⟩, ho2.defers.trans ho.defers, ho2.size.trans ho.size⟩)
      rw [List.length_cons, List.range'_succ]
      simp only [wpOps, hoi]
      exact this
    · cases hc
end
end Go.Ev
