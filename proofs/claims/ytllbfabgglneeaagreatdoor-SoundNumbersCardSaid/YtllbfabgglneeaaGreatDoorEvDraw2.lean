/- DERIVED. Regions whose order is open: what is quiet, run ahead; what it made, made later. -/
import Derived.Test.YtllbfabgglneeaaGreatDoorEvDraw1
set_option linter.unusedVariables false
set_option linter.unusedSimpArgs false
namespace Go.Ev
section
variable {P : Program} {C : Ctx} {call : CallF}

def nameOf : IV → Option P2
  | .ptr p _ | .sl p _ _ _ | .map p => some p
  | _ => none
theorem nameOf_mk (m : Mk) (p : P2) : nameOf (m.of p) = some p := by cases m <;> rfl
theorem at_putD {v : Env} {d : Option Tmp} {x : IV} (hd : ∀ t, d = some t → ∃ y, v.at t = some y) (u : Nat) : (putD v d x).at u = if d = some u then some x else v.at u := by
  cases d with
  | none => simp [putD]
  | some t =>
    rw [show putD v (some t) x = setT v t x from rfl, at_setT (hd t rfl)]
    by_cases e : u = t
    · subst e; simp
    · simp [e, Ne.symm e]
/-- Memory that has grown. -/
structure Grow (s s' : St) : Prop where
  nx : s.nx.num ≤ s'.nx.num
  old : ∀ p b, s.get p = some b → s'.get p = some b
  new : ∀ p b, s'.get p = some b → s.get p = some b ∨ s.nx.num ≤ p.num
  frs : (∀ p, s.get p ≠ none → p.num < s.nx.num) → ∀ p, s'.get p ≠ none → p.num < s'.nx.num
theorem Grow.refl (s : St) : Grow s s := ⟨Nat.le_refl _, fun _ _ h => h, fun _ _ h => .inl h, fun h => h⟩
theorem Grow.trans {a b c : St} (h : Grow a b) (g : Grow b c) : Grow a c :=
  ⟨Nat.le_trans h.nx g.nx, fun p x hx => g.old p x (h.old p x hx), fun p x hx => by
    rcases g.new p x hx with h1 | h1
    · exact h.new p x h1
    · exact .inr (Nat.le_trans h.nx h1), fun hf => g.frs (h.frs hf)⟩
theorem Grow.add (s : St) (b : Blk) (hn : s.get s.nx = none) : Grow s (s.add b) where
  nx := by rw [St.nx_add]; omega
  old := fun p x h => by
    rw [St.get_add]
    by_cases e : p = s.nx
    · subst e; rw [hn] at h; cases h
    · rw [if_neg e]; exact h
  new := fun p x h => by
    rw [St.get_add] at h
    by_cases e : p = s.nx
    · subst e; exact .inr (Nat.le_refl _)
    · rw [if_neg e] at h; exact .inl h
  frs := fun hf p h => by
    rw [St.get_add] at h; rw [St.nx_add]
    by_cases e : p = s.nx
    · subst e; omega
    · rw [if_neg e] at h; have := hf p h; omega
/-- What one quiet operation does. -/
theorem quiet_one (hC : CtxOk P C) (hcall : CallOk P C call) {ops : Array Oper} {o : Oper} {c : Cop} (h : compOp C ops.toList o = some c) (hq : isQuiet c.o = true ∨ isAlloc c.o = true) {v : Env} {s : St} {k : Env → St → Bool}
    (hk : wantK v c.g (opK c.o call v s (fun x s' => putK v c.d x (fun v' => k v' s'))) (putK v c.d (.tup []) (fun v' => k v' s)) = true) :
    ∃ x s', k (putD v o.dst x) s' = true ∧ s.nx.num ≤ s'.nx.num ∧ (s.get s.nx = none → Grow s s') ∧ (∀ t, o.dst = some t → ∃ y, v.at t = some y) ∧ (isAlloc c.o = true → ∀ p, nameOf x = some p → p = s.nx ∧ s'.nx.num = s.nx.num + 1) := by
  obtain ⟨g, hg, hcg, hcd, hco⟩ := compOp_inv h
  rw [hcg, hcd] at hk
  rcases wantK_iff hg _ _ hk with ⟨hw, hk⟩ | ⟨hw, hk⟩
  · have hco' : compO C o.op = some c.o := by
      rcases hco with hco | hco
      · exact hco
      · rw [hco] at hq; rcases hq with hq | hq <;> cases hq
    by_cases ha : isAlloc c.o = true
    · obtain ⟨m, b, hk', hl⟩ := alloc_sound hC hco' ha hk
      rw [putK_iff] at hk'
      exact ⟨_, _, hk'.2, by rw [St.nx_add]; omega, fun hn => Grow.add s b hn, hk'.1, fun _ p hp => by rw [nameOf_mk] at hp; cases hp; exact ⟨rfl, St.nx_add s b⟩⟩
    · have hq' : isQuiet c.o = true := hq.resolve_right ha
      rw [quiet_eq c.o hq'] at hk
      obtain ⟨x, s', hk', _⟩ := op_sound hC hcall hco' hk
      rw [putK_iff] at hk'
      exact ⟨x, s, hk'.2, Nat.le_refl _, fun _ => Grow.refl s, hk'.1, fun h => absurd h ha⟩
  · rw [putK_iff] at hk
    exact ⟨_, s, hk.2, Nat.le_refl _, fun _ => Grow.refl s, hk.1, fun _ p hp => by cases hp⟩
/-- Quiet operations, one behind the other. -/
structure Ran (rows : List Row) (v : Env) (s : St) (v' : Env) (s' : St) : Prop where
  grow : Grow s s'
  keep : ∀ t, (∀ r ∈ rows, r.o.dst ≠ some t) → v'.at t = v.at t
  dims : ∀ t, (∃ y, v'.at t = some y) ↔ ∃ y, v.at t = some y
  dst : ∀ r ∈ rows, ∀ t, r.o.dst = some t → ∃ y, v.at t = some y
  name : ∀ r ∈ rows, isAlloc r.c.o = true → ∀ t y p, r.o.dst = some t → v'.at t = some y → nameOf y = some p → s.nx.num ≤ p.num ∧ p.num < s'.nx.num
  names : ∀ r ∈ rows, ∀ q ∈ rows, isAlloc r.c.o = true → isAlloc q.c.o = true → ∀ t u y z p, r.o.dst = some t → q.o.dst = some u → v'.at t = some y → v'.at u = some z → nameOf y = some p → nameOf z = some p → t = u
theorem quiets_run (hC : CtxOk P C) (hcall : CallOk P C call) {ops : Array Oper} : ∀ (rows : List Row), (∀ r ∈ rows, compOp C ops.toList r.o = some r.c) → (∀ r ∈ rows, isQuiet r.c.o = true ∨ isAlloc r.c.o = true) →
    rows.Pairwise (fun r q => ∀ t, r.o.dst = some t → q.o.dst ≠ some t) → ∀ (v : Env) (s : St) (k : Env → St → Bool), opsK call (rows.map (·.c)) v s k = true →
    ∃ v' s', k v' s' = true ∧ s.nx.num ≤ s'.nx.num ∧ ((∀ p, s.get p ≠ none → p.num < s.nx.num) → Ran rows v s v' s')
  | [], _, _, _, v, s, k, hk => ⟨v, s, hk, Nat.le_refl _, fun hf => ⟨Grow.refl s, fun _ _ => rfl, fun _ => Iff.rfl, fun r hr => (by cases hr), fun r hr => (by cases hr), fun r hr => (by cases hr)⟩⟩
  | r :: rows, hc, hq, hp, v, s, k, hk => by
    have h1 : wantK v r.c.g (opK r.c.o call v s (fun x s' => putK v r.c.d x (fun v' => opsK call (rows.map (·.c)) v' s' k))) (putK v r.c.d (.tup []) (fun v' => opsK call (rows.map (·.c)) v' s k)) = true := hk
    obtain ⟨x, s1, hk1, hnx1, hg1, hd1, hn1⟩ := quiet_one hC hcall (hc r (by simp)) (hq r (by simp)) (k := fun v' s' => opsK call (rows.map (·.c)) v' s' k) h1
    obtain ⟨hp1, hp2⟩ := List.pairwise_cons.1 hp
    obtain ⟨v2, s2, hk2, hnx2, R⟩ := quiets_run hC hcall rows (fun q hq => hc q (by simp [hq])) (fun q hq' => hq q (by simp [hq'])) hp2 (putD v r.o.dst x) s1 k hk1
    refine ⟨v2, s2, hk2, Nat.le_trans hnx1 hnx2, fun hf => ?_⟩
    have hno : s.get s.nx = none := by
      cases hg : s.get s.nx with
      | none => rfl
      | some b => exact absurd (hf s.nx (by simp [hg])) (Nat.lt_irrefl _)
    replace hg1 := hg1 hno
    replace R := R (hg1.frs hf)
    have hdim : ∀ t, (∃ y, (putD v r.o.dst x).at t = some y) ↔ ∃ y, v.at t = some y := fun t => by
      rw [at_putD hd1]
      split
      · rename_i e; exact ⟨fun _ => hd1 t e, fun _ => ⟨_, rfl⟩⟩
      · rfl
    -- the head's own value stays
    have hself : ∀ t, r.o.dst = some t → v2.at t = some x := fun t ht => by
      rw [R.keep t (fun q hq => hp1 q hq t ht), at_putD hd1, if_pos ht]
    have hname0 : ∀ t y p, isAlloc r.c.o = true → r.o.dst = some t → v2.at t = some y → nameOf y = some p → p = s.nx ∧ s1.nx.num = s.nx.num + 1 := fun t y p ha ht hy hp => by
      rw [hself t ht] at hy; cases hy
      exact hn1 ha p hp
    refine ⟨hg1.trans R.grow, fun t ht => ?_, fun t => (R.dims t).trans (hdim t), fun q hq' t ht => ?_, ?_, ?_⟩
    · rw [R.keep t (fun q hq => ht q (by simp [hq])), at_putD hd1, if_neg (ht r (by simp))]
    · rcases List.mem_cons.1 hq' with rfl | hq'
      · exact hd1 t ht
      · exact (hdim t).1 (R.dst q hq' t ht)
    · intro q hq' ha t y p ht hy hpn
      have := R.grow.nx
      rcases List.mem_cons.1 hq' with rfl | hq'
      · obtain ⟨rfl, h2⟩ := hname0 t y p ha ht hy hpn
        exact ⟨Nat.le_refl _, by omega⟩
      · have h3 := R.name q hq' ha t y p ht hy hpn
        exact ⟨Nat.le_trans hg1.nx h3.1, h3.2⟩
    · intro q hq1 q' hq2 ha hb t u y z p ht hu hy hz hyp hzp
      rcases List.mem_cons.1 hq1 with rfl | m1 <;> rcases List.mem_cons.1 hq2 with rfl | m2
      · rw [ht] at hu; exact Option.some.inj hu
      · obtain ⟨rfl, h2⟩ := hname0 t y p ha ht hy hyp
        have h3 := R.name q' m2 hb u z _ hu hz hzp
        omega
      · obtain ⟨rfl, h2⟩ := hname0 u z p hb hu hz hzp
        have h3 := R.name q m1 ha t y _ ht hy hyp
        omega
      · exact R.names q m1 q' m2 ha hb t u y z p ht hu hy hz hyp hzp
/-- Memory grows here, and nothing happens there. -/
theorem Step.ahead {ρ0 ρ : Rho} {s0 s s' : St} {w0 w : World} (h : Step ρ0 s0 w0 ρ s w) (g : Grow s s') (hn : ∀ p, s.nx.num ≤ p.num → p.num < s'.nx.num → ρ p = none) : Step ρ0 s0 w0 ρ s' w := by
  have hfr := h.mem.frs
  have back : ∀ p L b, ρ p = some L → s'.get p = some b → s.get p = some b := fun p L b hp hb => by
    rcases g.new p b hb with h1 | h1
    · exact h1
    · have := g.frs hfr p (by simp [hb])
      rw [hn p h1 this] at hp; cases hp
  refine ⟨h.ext, ⟨fun p L b hp hb => h.mem.blk p L b hp (back p L b hp hb), fun p q L M hp hq h1 h2 e => ?_, h.mem.bnd, g.frs hfr⟩, h.size, Nat.le_trans h.nx g.nx, fun p hp => ?_, h.frame, fun p L b hp hb hr hlt => h.own p L b hp (back p L b hp hb) hr hlt, h.lk⟩
  · cases hb : s'.get p with
    | none => exact absurd hb h1
    | some b => cases hc : s'.get q with
      | none => exact absurd hc h2
      | some c => exact (h.mem.inj p q L M hp hq (by simp [back p L b hp hb]) (by simp [back q M c hq hc]) e).imp id fun ⟨a1, a2, a3⟩ => ⟨fun x hx => a1 x (back p L x hp hx), fun x hx => a2 x (back q M x hq hx), a3⟩
  · rcases h.dom p hp with h1 | h1
    · exact .inl h1
    · exact .inr ⟨h1.1, Nat.lt_of_lt_of_le h1.2 g.nx⟩
/-- Something new there, that has been here for long. -/
theorem Step.late {ρ0 ρ : Rho} {s0 s : St} {w0 w w' : World} {p : P2} {b : Blk} {obj : Obj} {cap : Nat} (h : Step ρ0 s0 w0 ρ s w) (hp : ρ p = none) (hs : s.get p = some b) (hlo : s0.nx.num ≤ p.num)
    (hw0 : Turned w w' (w.heap.push obj)) (hb : BlkRel ρ ⟨w.heap.size, 0, cap⟩ b (some obj)) : Step ρ0 s0 w0 (ρ.set p ⟨w.heap.size, 0, cap⟩) s w' := by
  have hw : w'.heap = _ := Turned.heap hw0
  have hext : Ext' ρ (ρ.set p ⟨w.heap.size, 0, cap⟩) := Rho.set_ext _ hp
  have hold : ∀ c, c < w.heap.size → w'.heap[c]? = w.heap[c]? := fun c hc => by rw [hw, Array.getElem?_push_lt hc, Array.getElem?_eq_getElem hc]
  have hnew : w'.heap[w.heap.size]? = some obj := by rw [hw]; simp
  have hset : ∀ q L, (ρ.set p ⟨w.heap.size, 0, cap⟩) q = some L → q = p ∧ L = ⟨w.heap.size, 0, cap⟩ ∨ q ≠ p ∧ ρ q = some L := fun q L hq => by
    unfold Rho.set at hq; split at hq
    · rename_i e; exact .inl ⟨e, (Option.some.inj hq).symm⟩
    · rename_i e; exact .inr ⟨e, hq⟩
  have hlt := h.mem.frs p (by simp [hs])
  refine ⟨h.ext.trans hext, ⟨?_, ?_, ?_, h.mem.frs⟩, by rw [hw]; simp; have := h.size; omega, h.nx, ?_, ?_, ?_, (Turned.os hw0).trans h.lk.1, (Turned.out hw0).trans h.lk.2⟩
  · intro q L c hq hc
    rcases hset q L hq with ⟨rfl, rfl⟩ | ⟨hne, hq'⟩
    · rw [hs] at hc; cases hc
      show BlkRel _ _ _ w'.heap[w.heap.size]?; rw [hnew]; exact hb.mono hext
    · rw [hold _ (h.mem.bnd q L hq')]; exact (h.mem.blk q L c hq' hc).mono hext
  · intro q r L M hq hr h1 h2 e
    rcases hset q L hq with ⟨rfl, rfl⟩ | ⟨hne, hq'⟩ <;> rcases hset r M hr with ⟨rfl, rfl⟩ | ⟨hne', hr'⟩
    · exact .inl rfl
    · have := h.mem.bnd r M hr'; simp at e; omega
    · have := h.mem.bnd q L hq'; simp at e; omega
    · exact h.mem.inj q r L M hq' hr' h1 h2 e
  · intro q L hq
    rw [hw]; simp only [Array.size_push]
    rcases hset q L hq with ⟨rfl, rfl⟩ | ⟨_, hq'⟩
    · simp
    · have := h.mem.bnd q L hq'; omega
  · intro q hq
    cases e : (ρ.set p ⟨w.heap.size, 0, cap⟩) q with
    | none => exact absurd e hq
    | some L =>
      rcases hset q L e with ⟨rfl, rfl⟩ | ⟨_, hq'⟩
      · exact .inr ⟨hlo, hlt⟩
      · exact h.dom q (by simp [hq'])
  · intro c hc hro
    rw [hold c (Nat.lt_of_lt_of_le hc h.size)]; exact h.frame c hc hro
  · intro q L c hq hc hr hlt2
    rcases hset q L hq with ⟨rfl, rfl⟩ | ⟨hne, hq'⟩
    · have := h.size; simp at hlt2; omega
    · exact h.own q L c hq' hc hr hlt2
end
end Go.Ev
