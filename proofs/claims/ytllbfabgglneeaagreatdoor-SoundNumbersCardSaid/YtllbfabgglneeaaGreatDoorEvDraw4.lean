/- DERIVED. Regions whose order is open: the invariant, and how a quiet operation moves it. -/
import Derived.Test.YtllbfabgglneeaaGreatDoorEvDraw3
set_option linter.unusedVariables false
set_option linter.unusedSimpArgs false
namespace Go.Ev
section
variable {P : Program} {C : Ctx} {call : CallF}

structure Reg (C : Ctx) (ops : Array Oper) (rows quiet effs : List Row) : Prop where
  are : RowsAre C ops.toList rows
  tmps : tmpsOk rows = true
  chain : chainOk effs = true
  back : backOk rows = true
  hquiet : quiet = rows.filter (!·.eff)
  heffs : effs = rows.filter (·.eff)
variable {ops : Array Oper} {rows quiet effs : List Row}

theorem Reg.one (h : Reg C ops rows quiet effs) {r q : Row} (hr : r ∈ rows) (hq : q ∈ rows) {t : Tmp} (ht : q.o.dst = some t) : (r.no ≠ q.no → r.o.dst ≠ some t) ∧ (t ∈ r.looks → r.no ≠ q.no ∧ r.wait.testBit q.no = true) := by
  have h1 := List.all_eq_true.1 h.tmps r hr
  rw [Bool.and_eq_true] at h1
  have h2 := List.all_eq_true.1 h1.2 q hq
  rw [ht] at h2
  simp only [Bool.and_eq_true, Bool.or_eq_true, beq_iff_eq, bne_iff_ne, List.all_eq_true] at h2
  refine ⟨fun hne => h2.1.resolve_left hne, fun hin => ?_⟩
  rcases h2.2 t hin with h3 | h3
  · exact absurd rfl h3
  · exact h3
theorem Reg.alloc (h : Reg C ops rows quiet effs) {r : Row} (hr : r ∈ rows) (ha : isAlloc r.c.o = true) : ∃ t, r.o.dst = some t := by
  have h1 := List.all_eq_true.1 h.tmps r hr
  rw [Bool.and_eq_true] at h1
  have := h1.1
  simp [ha] at this
  exact Option.isSome_iff_exists.1 this
theorem Reg.mem (h : Reg C ops rows quiet effs) {r : Row} (hr : r ∈ quiet) : r ∈ rows ∧ (isQuiet r.c.o = true ∨ isAlloc r.c.o = true) := by
  rw [h.hquiet, List.mem_filter] at hr
  refine ⟨hr.1, ?_⟩
  have h2 := hr.2
  rw [(h.are.is r hr.1).eff] at h2
  simpa using h2
theorem looks_at {r : Row} (hr : RowIs C ops.toList r) : ∀ t ∈ r.o.looksAt ops, t ∈ r.looks := by
  intro t ht
  unfold Oper.looksAt at ht
  unfold Row.looks
  rw [List.mem_append] at ht ⊢
  rcases ht with ht | ht
  · exact .inl ht
  · refine .inr (List.mem_append.2 (.inr ?_))
    obtain ⟨g, hg, hcg, _, _⟩ := compOp_inv hr.comp
    cases hgd : r.o.guard with
    | none => rw [hgd] at ht; simp at ht
    | some p =>
      obtain ⟨j, w⟩ := p
      rw [hgd] at ht hg
      simp only [gd] at hg
      split at hg
      · rename_i oj hoj
        split at hg <;> cases hg
        rename_i u hu
        have hoj' : ops[j]? = some oj := by simpa using hoj
        have e : t = u := by simpa [hoj', hu] using ht
        rw [e, hcg]
        show u ∈ [8 * (u / 8) + u % 8]
        rw [Nat.div_add_mod]; simp
      · cases hg
theorem looks_ods {r : Row} : ∀ x ∈ r.c.o.ods, ∀ t ∈ odTmps x, t ∈ r.looks := fun x hx t ht => by
  unfold Row.looks
  simp only [List.mem_append, List.mem_flatMap]
  exact .inr (.inl ⟨x, hx, ht⟩)
theorem Wants.model' {ρ : Rho} {v : Env} {a : Act} {r : Row} {b : Bool} (hr : RowIs C ops.toList r) (h : Wants v ops r.o.guard b) (he : ∀ t y, v.at t = some y → t < a.tmps.size ∧ (t ∈ r.looks → conc ρ y = some (a.tmps.getD t undef))) : Region.wanted r.o (yielded ops a.tmps) = b := by
  unfold Region.wanted
  cases hg : r.o.guard with
  | none => rw [hg] at h; exact h.symm
  | some p =>
    obtain ⟨j, w⟩ := p
    rw [hg] at h
    obtain ⟨oj, t, x, hj, ht, hx, h⟩ := h
    obtain ⟨hlt, hc⟩ := he t x hx
    have hin : t ∈ r.looks := looks_at hr t (by unfold Oper.looksAt; simp [hg, hj, ht])
    have hc := hc hin
    have hget : a.tmps[t]? = some (a.tmps.getD t undef) := by simp [hlt]
    simp only [yielded, hj, Option.bind_some, ht, hget]
    rcases h with ⟨b, rfl, rfl⟩ | ⟨rfl, rfl⟩
    · rw [bool_inv hc]; cases b <;> cases w <;> rfl
    · have : a.tmps.getD t undef = undef := by rw [conc_undef] at hc; exact (Option.some.inj hc).symm
      rw [this]; cases w <;> rfl

/-- What is so between a phase's quiet operations and its effect. -/
structure Inv (P : Program) (ops : Array Oper) (quiet effs pre : List Row) (n : Nat) (ρ0 : Rho) (s0 : St) (w0 : World) (a0 : Act) (listed : Array Bool) (a : Act) (w : World) (v : Env) (s : St) (ρ : Rho) : Prop where
  size : listed.size = ops.size
  closed : Closed ops.toList listed
  effd : ∀ r ∈ effs, done listed r.no ↔ r ∈ pre
  env : ∀ t y, v.at t = some y → t < a.tmps.size ∧ ((∀ r ∈ quiet, ¬ done listed r.no → countEff effs r < n → r.o.dst ≠ some t) → conc ρ y = some (a.tmps.getD t undef))
  step : Step ρ0 s0 w0 ρ s w
  defers : a.defers = a0.defers
  tsize : a.tmps.size = a0.tmps.size
  ph : ∀ r ∈ quiet, ¬ done listed r.no → countEff effs r < n → isAlloc r.c.o = true → ∀ t y p, r.o.dst = some t → v.at t = some y → nameOf y = some p → ρ p = none ∧ s0.nx.num ≤ p.num ∧ p.num < s.nx.num
  dc : ∀ r ∈ quiet, done listed r.no → countEff effs r < n
  phd : ∀ r ∈ quiet, ∀ q ∈ quiet, ¬ done listed r.no → ¬ done listed q.no → countEff effs r < n → countEff effs q < n → isAlloc r.c.o = true → isAlloc q.c.o = true → ∀ t u y z p, r.o.dst = some t → q.o.dst = some u → v.at t = some y → v.at u = some z → nameOf y = some p → nameOf z = some p → t = u

theorem done_set {listed : Array Bool} {i j : Nat} (hi : i < listed.size) : done (listed.setIfInBounds i true) j ↔ j = i ∨ done listed j := by
  unfold done
  rw [Array.getD_eq_getD_getElem?, Array.getD_eq_getD_getElem?, Array.getElem?_setIfInBounds]
  by_cases e : i = j
  · subst e; simp [hi]
  · simp [e, Ne.symm e]
theorem Closed.set {l : List Oper} {listed : Array Bool} {i : Nat} {o : Oper} (h : Closed l listed) (hi : i < listed.size) (ho : l[i]? = some o) (hr : ∀ e ∈ o.after.toList, Region.binds .any e = true → done listed e.on) : Closed l (listed.setIfInBounds i true) := by
  intro j q hj hd e he hb
  rw [done_set hi]
  rw [done_set hi] at hd
  rcases hd with rfl | hd
  · rw [ho] at hj; cases hj
    exact .inr (hr e he hb)
  · exact .inr (h j q hj hd e he hb)

/-- A quiet operation whose turn has come. -/
theorem quiet_move (hC : CtxOk P C) (hcall : CallOk P C call) (hR : Reg C ops rows quiet effs) {pre : List Row} {n : Nat} {ρ0 ρ : Rho} {s0 s : St} {w0 w : World} {a0 a : Act} {listed : Array Bool} {v : Env}
    (hI : Inv P ops quiet effs pre n ρ0 s0 w0 a0 listed a w v s ρ) (hg : Glob C ρ) {r : Row} (hr : r ∈ quiet) (hnd : ¬ done listed r.no) (hready : ∀ e ∈ r.o.after.toList, Region.binds .any e = true → done listed e.on) (hcount : countEff effs r < n)
    (hchk : chkK call r.c v s true = true) (hdst : ∀ t, r.o.dst = some t → ∃ y, v.at t = some y) {K : Act → World → Prop} {Q : Exit → Act → World → Prop}
    (hK : ∀ a' w' ρ', Ext' ρ ρ' → Inv P ops quiet effs pre n ρ0 s0 w0 a0 (listed.setIfInBounds r.no true) a' w' v s ρ' → K a' w') : wpOp P ops Q r.no K a w := by
  obtain ⟨hrow, hkind⟩ := hR.mem hr
  have his := hR.are.is r hrow
  have hoi : ops[r.no]? = some r.o := by simpa using his.o
  have hlt : r.no < listed.size := by rw [hI.size]; exact (Array.getElem?_eq_some_iff.1 hoi).1
  -- what it looks at is known
  have hlook : ∀ t y, v.at t = some y → t < a.tmps.size ∧ (t ∈ r.looks → conc ρ y = some (a.tmps.getD t undef)) := fun t y hy => by
    obtain ⟨h1, h2⟩ := hI.env t y hy
    refine ⟨h1, fun hin => h2 fun q hq hqd _ hqt => ?_⟩
    have := (hR.one hrow (hR.mem hq).1 hqt).2 hin
    exact hqd (wait_done hI.closed r.no r.o r.wait his.o his.wait hready q.no this.2)
  obtain ⟨g, hgd, hcg, hcd, hco⟩ := compOp_inv his.comp
  have heffd : ∀ q ∈ effs, done (listed.setIfInBounds r.no true) q.no ↔ q ∈ pre := fun q hq => by
    rw [done_set hlt, ← hI.effd q hq]
    constructor
    · rintro (e | h)
      · exfalso
        rw [hR.heffs, List.mem_filter] at hq
        have := hR.are.one q hq.1 r hrow e
        subst this
        have hr2 := hr
        rw [hR.hquiet, List.mem_filter] at hr2
        have h1 := hr2.2
        have h2 := hq.2
        simp [h2] at h1
      · exact h
    · exact .inr
  have hund : ∀ q : Row, ¬ done (listed.setIfInBounds r.no true) q.no → ¬ done listed q.no ∧ q.no ≠ r.no := fun q h => by
    rw [done_set hlt] at h
    exact ⟨fun h' => h (.inr h'), fun h' => h (.inl h')⟩
  -- the next state, whatever the value
  have next : ∀ (u : Value) (w' : World) (ρ' : Rho), Ext' ρ ρ' → Step ρ0 s0 w0 ρ' s w' → (∀ t y, r.o.dst = some t → v.at t = some y → conc ρ' y = some u) →
      (∀ p, (∀ t y, r.o.dst = some t → v.at t = some y → isAlloc r.c.o = true → nameOf y ≠ some p) → ρ p = none → ρ' p = none) → K (a.put r.o.dst u) w' := by
    intro u w' ρ' hext hst hval hnone
    refine hK _ w' ρ' hext ⟨by simp [hI.size], hI.closed.set hlt his.o hready, heffd, fun t y hy => ?_, hst, by rw [put_defers]; exact hI.defers, by rw [put_size]; exact hI.tsize, fun q hq hqd hqc hqa t y p hqt hy hp => ?_, fun q hq hqd => ?_, fun q hq q' hq' h1 h2 h3 h4 h5 h6 => hI.phd q hq q' hq' (hund q h1).1 (hund q' h2).1 h3 h4 h5 h6⟩
    · obtain ⟨h1, h2⟩ := hI.env t y hy
      refine ⟨by rw [put_size]; exact h1, fun hns => ?_⟩
      by_cases e : r.o.dst = some t
      · rw [e]
        simp only [Act.put]
        have : (a.tmps.setIfInBounds t u).getD t undef = u := by simp [h1]
        rw [this]; exact hval t y e hy
      · have hsame : (a.put r.o.dst u).tmps.getD t undef = a.tmps.getD t undef := by
          cases hd : r.o.dst with
          | none => rfl
          | some d =>
            have hne : d ≠ t := fun q => e (by rw [hd, q])
            simp only [Act.put]
            rw [Array.getD_eq_getD_getElem?, Array.getElem?_setIfInBounds_ne hne, ← Array.getD_eq_getD_getElem?]
        rw [hsame]
        refine conc_mono hext _ _ (h2 fun q hq hqd hqc hqt => ?_)
        by_cases e2 : q.no = r.no
        · have := hR.are.one q (hR.mem hq).1 r hrow e2
          subst this; exact e hqt
        · exact hns q hq (fun h => by rw [done_set hlt] at h; rcases h with h | h; exact e2 h; exact hqd h) hqc hqt
    · obtain ⟨hqd1, hqne⟩ := hund q hqd
      obtain ⟨g1, g2, g3⟩ := hI.ph q hq hqd1 hqc hqa t y p hqt hy hp
      refine ⟨hnone p (fun t' y' ht' hy' ha' hp' => ?_) g1, g2, g3⟩
      have := hI.phd q hq r hr hqd1 hnd hqc hcount hqa ha' t t' y y' p hqt ht' hy hy' hp hp'
      subst this
      exact (hR.one (hR.mem hq).1 hrow ht').1 hqne hqt
    · rw [done_set hlt] at hqd
      rcases hqd with e | hqd
      · have := hR.are.one q (hR.mem hq).1 r hrow e
        subst this; exact hcount
      · exact hI.dc q hq hqd
  unfold wpOp
  rw [hoi]
  simp only
  have hchk' : wantK v r.c.g
      (Ds.rec (motive := fun _ => Bool) (opK r.c.o call v s (fun _ _ => true)) (fun a b => getK v (.t a b) (fun y => opK r.c.o call v s (fun x s' => boolK (isAlloc r.c.o) (boolK (allocSame s y s' x) true false) (boolK (y.same x) true false)))) r.c.d)
      (Ds.rec (motive := fun _ => Bool) true (fun a b => getK v (.t a b) (fun y => guardV y true (fun _ => false))) r.c.d) = true := hchk
  rw [hcg, hcd] at hchk'
  rcases wantK_iff hgd _ _ hchk' with ⟨hw, hk⟩ | ⟨hw, hk⟩
  · rw [if_pos (hw.model' his hlook)]
    have hco' : compO C r.o.op = some r.c.o := by
      rcases hco with hco | hco
      · exact hco
      · rw [hco] at hkind; rcases hkind with hq | hq <;> cases hq
    have hnoself : NoDom ρ s s := fun p h1 h2 => absurd h1 (by omega)
    have hlooks1 := looks_at (ops := ops) his
    have quietly : isQuiet r.c.o = true → ∀ f : IV → Bool, opK r.c.o call v s (fun x _ => f x) = true → (∀ x, f x = true → ∀ t y, r.o.dst = some t → v.at t = some y → y = x) → r.o.wp P a w K Q := by
      intro hqq f hf hfx
      have h2 : opK r.c.o call v s (fun x s' => f x && @decide (s' = s) (Classical.propDecidable _)) = true := by
        rw [quiet_eq _ hqq]
        simpa using hf
      obtain ⟨x, s', hx, _, hrun⟩ := op_looks (ops := ops) hC hcall hco' hlooks1 looks_ods h2
      rw [Bool.and_eq_true] at hx
      obtain ⟨hx1, hx2⟩ := hx
      have hx3 : s' = s := @of_decide_eq_true _ (Classical.propDecidable _) hx2
      subst hx3
      refine (hrun ρ a w hg hlook hI.step.mem hnoself).wp fun xv w' ⟨ρ', hc', hst⟩ => next xv w' ρ' hst.ext (hI.step.trans hst) (fun t y ht hy => by rw [hfx x hx1 t y ht hy]; exact hc') fun p _ hp => ?_
      cases hρ : ρ' p with
      | none => rfl
      | some L =>
        rcases hst.dom p (by simp [hρ]) with h | h
        · exact absurd hp h
        · omega
    refine .inl ?_
    cases hd : r.o.dst with
    | none =>
      rw [hd] at hk
      have hqq : isQuiet r.c.o = true := by
        rcases hkind with h | h
        · exact h
        · obtain ⟨t, ht⟩ := hR.alloc hrow h
          rw [hd] at ht; cases ht
      exact quietly hqq (fun _ => true) hk fun x _ t y ht => by rw [hd] at ht; cases ht
    | some t =>
      rw [hd] at hk
      have hk' : getK v (.t (t / 8) (t % 8)) (fun y => opK r.c.o call v s (fun x s' => boolK (isAlloc r.c.o) (boolK (allocSame s y s' x) true false) (boolK (y.same x) true false))) = true := hk
      rw [getK_iff] at hk'
      obtain ⟨y, hy, hk2⟩ := hk'
      rw [at_mk] at hy
      cases ha : isAlloc r.c.o with
      | false =>
        rw [ha] at hk2
        have hqq : isQuiet r.c.o = true := hkind.resolve_right (by simp [ha])
        exact quietly hqq (fun x => boolK (y.same x) true false) hk2 fun x hx t' y' ht' hy' => by
          rw [hd] at ht'; cases ht'
          rw [hy] at hy'; cases hy'
          rw [boolK_t] at hx
          exact IV.same_eq hx.1
      | true =>
        rw [ha] at hk2
        have hden : ∀ x ∈ r.c.o.ods, x.den (maskV (others v r.looks) v) = x.den v := fun x hx => mask_den _ fun u hu hin => (mem_others.1 hu).1 (looks_ods x hx u hin)
        rw [← opK_congr r.c.o hden] at hk2
        obtain ⟨m, b, hm, hl⟩ := alloc_sound hC hco' ha hk2
        have hm' : boolK (allocSame s y (s.add b) (m.of s.nx)) true false = true := hm
        rw [boolK_t] at hm'
        obtain ⟨p, rfl, hp⟩ := allocSame_inv hm'.1
        have hrel : EnvRel ρ (maskV (others v r.looks) v) (maskA (others v r.looks) a).tmps := mask_rel _ (fun u hu => (mem_others.1 hu).2) fun u z hz => by
          obtain ⟨q1, q2⟩ := hlook u z hz
          refine ⟨q1, ?_⟩
          by_cases hin : u ∈ r.looks
          · exact .inr (q2 hin)
          · exact .inl (mem_others.2 ⟨hin, z, hz⟩)
        obtain ⟨obj, w', xv, hw', hb, hrun, hval⟩ := hl.run ρ (maskA (others v r.looks) a) w hg hrel
        rw [mask_exec (ops := ops) (comp_noselect hco') _ a fun u hu hin => (mem_others.1 hu).1 (hlooks1 u hin)] at hrun
        obtain ⟨g1, g2, g3⟩ := hI.ph r hr hnd hcount ha t _ p hd hy (nameOf_mk m p)
        have hfin := next xv w' (ρ.set p ⟨w.heap.size, 0, 0⟩) (Rho.set_ext _ g1) (Step.late hI.step g1 hp g2 hw' hb) (fun t' y' ht' hy' => by
          rw [hd] at ht'; cases ht'
          rw [hy] at hy'; cases hy'
          exact hval _ p (Rho.set_self ..)) fun p' hne hp' => by
            have : p' ≠ p := fun e => hne t _ hd hy ha (by rw [nameOf_mk, e])
            simp [Rho.set, this, hp']
        unfold Oper.wp
        rw [hrun]
        exact hfin
  · rw [if_neg (by rw [hw.model' his hlook]; simp)]
    refine next undef w ρ (Ext'.refl ρ) hI.step (fun t y ht hy => ?_) fun p _ h => h
    rw [ht] at hk
    have hk' : getK v (.t (t / 8) (t % 8)) (fun y => guardV y true (fun _ => false)) = true := hk
    rw [getK_iff] at hk'
    obtain ⟨y', hy', h3⟩ := hk'
    rw [at_mk, hy] at hy'; cases hy'
    rw [guardV_iff] at h3
    rcases h3 with ⟨b, _, h⟩ | ⟨rfl, _⟩
    · cases h
    · exact conc_undef ρ
end
end Go.Ev
