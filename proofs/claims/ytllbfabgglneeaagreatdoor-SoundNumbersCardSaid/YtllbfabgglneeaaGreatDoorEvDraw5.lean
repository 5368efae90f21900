/- DERIVED. Regions whose order is open: what is held anew; an effect; a phase's quiet operations. -/
import Derived.Test.YtllbfabgglneeaaGreatDoorEvDraw4
set_option linter.unusedVariables false
set_option linter.unusedSimpArgs false
namespace Go.Ev
section
variable {P : Program} {C : Ctx} {call : CallF} {ops : Array Oper} {rows quiet effs : List Row}

theorem chkK_iff (hC : CtxOk P C) (hcall : CallOk P C call) {r : Row} (hr : RowIs C ops.toList r) {v : Env} {s : St} {k : Bool} (h : chkK call r.c v s k = true) : k = true := by
  have h' : wantK v r.c.g
      (Ds.rec (motive := fun _ => Bool) (opK r.c.o call v s (fun _ _ => k)) (fun a b => getK v (.t a b) (fun y => opK r.c.o call v s (fun x s' => boolK (isAlloc r.c.o) (boolK (allocSame s y s' x) k false) (boolK (y.same x) k false)))) r.c.d)
      (Ds.rec (motive := fun _ => Bool) k (fun a b => getK v (.t a b) (fun y => guardV y k (fun _ => false))) r.c.d) = true := h
  obtain ⟨g, hgd, hcg, hcd, hco⟩ := compOp_inv hr.comp
  rw [hcg, hcd] at h'
  rcases wantK_iff hgd _ _ h' with ⟨_, hk⟩ | ⟨_, hk⟩
  · have hco' : compO C r.o.op = some r.c.o := by
      rcases hco with hco | hco
      · exact hco
      · rw [hco] at hk
        cases hd : r.o.dst with
        | none => rw [hd] at hk; cases hk
        | some t =>
          rw [hd] at hk
          have hk' : getK v (.t (t / 8) (t % 8)) (fun y => false) = true := hk
          rw [getK_iff] at hk'; obtain ⟨_, _, h⟩ := hk'; cases h
    cases hd : r.o.dst with
    | none =>
      rw [hd] at hk
      obtain ⟨x, s', hx, _⟩ := op_sound hC hcall hco' (k := fun _ _ => k) hk
      exact hx
    | some t =>
      rw [hd] at hk
      have hk' : getK v (.t (t / 8) (t % 8)) (fun y => opK r.c.o call v s (fun x s' => boolK (isAlloc r.c.o) (boolK (allocSame s y s' x) k false) (boolK (y.same x) k false))) = true := hk
      rw [getK_iff] at hk'
      obtain ⟨y, _, hk2⟩ := hk'
      obtain ⟨x, s', hx, _⟩ := op_sound hC hcall hco' hk2
      rw [boolK_iff, boolK_t, boolK_t] at hx
      rcases hx with ⟨_, _, h⟩ | ⟨_, _, h⟩ <;> exact h
  · cases hd : r.o.dst with
    | none => rw [hd] at hk; exact hk
    | some t =>
      rw [hd] at hk
      have hk' : getK v (.t (t / 8) (t % 8)) (fun y => guardV y k (fun _ => false)) = true := hk
      rw [getK_iff] at hk'
      obtain ⟨y, _, hk2⟩ := hk'
      rw [guardV_iff] at hk2
      rcases hk2 with ⟨b, _, h⟩ | ⟨_, h⟩
      · cases h
      · exact h
theorem chksK_iff (hC : CtxOk P C) (hcall : CallOk P C call) {v : Env} {s : St} {k : Bool} : ∀ (l : List Row), (∀ r ∈ l, RowIs C ops.toList r) → chksK call (l.map (·.c)) v s k = true → (∀ r ∈ l, chkK call r.c v s true = true) ∧ k = true
  | [], _, h => ⟨fun r hr => (by cases hr), h⟩
  | r :: l, hl, h => by
    have h1 : chkK call r.c v s (chksK call (l.map (·.c)) v s k) = true := h
    have h2 := chkK_iff hC hcall (hl r (by simp)) h1
    rw [h2] at h1
    obtain ⟨h3, h4⟩ := chksK_iff hC hcall l (fun q hq => hl q (by simp [hq])) h2
    refine ⟨fun q hq => ?_, h4⟩
    rcases List.mem_cons.1 hq with rfl | hq
    · exact h1
    · exact h3 q hq

/-- An effect. -/
theorem eff_one (hC : CtxOk P C) (hcall : CallOk P C call) {r : Row} (hr : RowIs C ops.toList r) {v : Env} {s : St} {k : Env → St → Bool} (hk : opsK call [r.c] v s k = true) :
    ∃ x s1, k (putD v r.o.dst x) s1 = true ∧ (∀ t, r.o.dst = some t → ∃ y, v.at t = some y) ∧ s.nx.num ≤ s1.nx.num ∧
      ∀ (ρ : Rho) (a : Act) (w : World) (K : Act → World → Prop) (Q : Exit → Act → World → Prop), Glob C ρ → (∀ t y, v.at t = some y → t < a.tmps.size ∧ (t ∈ r.looks → conc ρ y = some (a.tmps.getD t undef))) → MemRel ρ s w → NoDom ρ s s1 →
        (∀ xv w' ρ', conc ρ' x = some xv → Step ρ s w ρ' s1 w' → K (a.put r.o.dst xv) w') → wpOp P ops Q r.no K a w := by
  have h1 : wantK v r.c.g (opK r.c.o call v s (fun x s' => putK v r.c.d x (fun v' => k v' s'))) (putK v r.c.d (.tup []) (fun v' => k v' s)) = true := hk
  have hoi : ops[r.no]? = some r.o := by simpa using hr.o
  obtain ⟨g, hgd, hcg, hcd, hco⟩ := compOp_inv hr.comp
  rw [hcg, hcd] at h1
  rcases wantK_iff hgd _ _ h1 with ⟨hw, h2⟩ | ⟨hw, h2⟩
  · have hco' : compO C r.o.op = some r.c.o := by
      rcases hco with hco | hco
      · exact hco
      · rw [hco] at h2; cases h2
    obtain ⟨x, s1, hx, hnx, hrun⟩ := op_looks (ops := ops) hC hcall hco' (looks_at hr) looks_ods h2
    rw [putK_iff] at hx
    refine ⟨x, s1, hx.2, hx.1, hnx, fun ρ a w K Q hg he hm hn hK => ?_⟩
    unfold wpOp
    rw [hoi]
    simp only
    rw [if_pos (hw.model' hr he)]
    exact .inl ((hrun ρ a w hg he hm hn).wp fun xv w' ⟨ρ', h3, h4⟩ => hK xv w' ρ' h3 h4)
  · rw [putK_iff] at h2
    refine ⟨_, s, h2.2, h2.1, Nat.le_refl _, fun ρ a w K Q hg he hm hn hK => ?_⟩
    unfold wpOp
    rw [hoi]
    simp only
    rw [if_neg (by rw [hw.model' hr he]; simp)]
    exact hK undef w ρ (conc_undef ρ) (Step.refl hm)

/-- A phase's quiet operations. -/
theorem Inv.quiets (hR : Reg C ops rows quiet effs) {pre : List Row} {n : Nat} {ρ0 ρ : Rho} {s0 s1 s : St} {w0 w : World} {a0 a : Act} {listed : Array Bool} {v1 v : Env}
    (hI : Inv P ops quiet effs pre n ρ0 s0 w0 a0 listed a w v1 s1 ρ) (R : Ran (quiet.filter fun r => countEff effs r == n) v1 s1 v s) (hn : NoDom ρ s1 s) : Inv P ops quiet effs pre (n + 1) ρ0 s0 w0 a0 listed a w v s ρ := by
  have hin : ∀ r ∈ quiet, countEff effs r = n → r ∈ quiet.filter fun r => countEff effs r == n := fun r hr h => List.mem_filter.2 ⟨hr, by simpa using h⟩
  have hun : ∀ r ∈ quiet, countEff effs r = n → ¬ done listed r.no := fun r hr h hd => by have := hI.dc r hr hd; omega
  have hkeep : ∀ t, (∀ r ∈ quiet, countEff effs r = n → r.o.dst ≠ some t) → v.at t = v1.at t := fun t h => R.keep t fun r hr => by
    obtain ⟨h1, h2⟩ := List.mem_filter.1 hr
    exact h r h1 (by simpa using h2)
  have hold : ∀ r ∈ quiet, countEff effs r < n → ∀ t, r.o.dst = some t → v.at t = v1.at t := fun r hr hc t ht => hkeep t fun q hq hqc hqt => by
    have hne : q.no ≠ r.no := fun e => by
      have := hR.are.one q (hR.mem hq).1 r (hR.mem hr).1 e
      subst this; omega
    exact (hR.one (hR.mem hq).1 (hR.mem hr).1 ht).1 hne hqt
  have hnx := R.grow.nx
  refine ⟨hI.size, hI.closed, hI.effd, fun t y hy => ?_, Step.ahead hI.step R.grow hn, hI.defers, hI.tsize, fun r hr hd hc ha t y p ht hy hp => ?_, fun r hr hd => Nat.lt_succ_of_lt (hI.dc r hr hd), fun r hr q hq hrd hqd hrc hqc hra hqa t u y z p ht hu hy hz hyp hzp => ?_⟩
  · obtain ⟨y1, hy1⟩ := (R.dims t).1 ⟨y, hy⟩
    refine ⟨(hI.env t y1 hy1).1, fun hns => ?_⟩
    have he : v.at t = v1.at t := hkeep t fun r hr hc => hns r hr (hun r hr hc) (by omega)
    rw [he] at hy
    exact (hI.env t y hy).2 fun r hr hd hc => hns r hr hd (by omega)
  · by_cases hlt : countEff effs r < n
    · rw [hold r hr hlt t ht] at hy
      obtain ⟨g1, g2, g3⟩ := hI.ph r hr hd hlt ha t y p ht hy hp
      exact ⟨g1, g2, by omega⟩
    · have hc' : countEff effs r = n := by omega
      obtain ⟨g1, g2⟩ := R.name r (hin r hr hc') ha t y p ht hy hp
      exact ⟨hn p g1 g2, Nat.le_trans hI.step.nx g1, g2⟩
  · by_cases hl1 : countEff effs r < n <;> by_cases hl2 : countEff effs q < n
    · rw [hold r hr hl1 t ht] at hy
      rw [hold q hq hl2 u hu] at hz
      exact hI.phd r hr q hq hrd hqd hl1 hl2 hra hqa t u y z p ht hu hy hz hyp hzp
    · rw [hold r hr hl1 t ht] at hy
      have g1 := (hI.ph r hr hrd hl1 hra t y p ht hy hyp).2.2
      have g2 := (R.name q (hin q hq (by omega)) hqa u z p hu hz hzp).1
      omega
    · rw [hold q hq hl2 u hu] at hz
      have g1 := (hI.ph q hq hqd hl2 hqa u z p hu hz hzp).2.2
      have g2 := (R.name r (hin r hr (by omega)) hra t y p ht hy hyp).1
      omega
    · exact R.names r (hin r hr (by omega)) q (hin q hq (by omega)) hra hqa t u y z p ht hu hy hz hyp hzp
end
end Go.Ev
