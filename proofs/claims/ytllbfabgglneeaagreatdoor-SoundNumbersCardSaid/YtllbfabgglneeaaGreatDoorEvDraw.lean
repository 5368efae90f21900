/- DERIVED. Regions whose order is open: the ideal machine's against the model's. -/
import Derived.Test.YtllbfabgglneeaaGreatDoorEvDraw6
set_option linter.unusedVariables false
set_option linter.unusedSimpArgs false
namespace Go.Ev
section
variable {P : Program} {C : Ctx} {call : CallF} {ops : Array Oper} {rows quiet effs : List Row}

/-- Between two effects: whichever quiet operation comes up; then the effect. -/
theorem mid (hC : CtxOk P C) (hcall : CallOk P C call) (hR : Reg C ops rows quiet effs) {pre es : List Row} (he : effs = pre ++ es) {ρ0 : Rho} {s0 : St} {w0 : World} {a0 : Act} {v : Env} {s : St} {Q : Exit → Act → World → Prop} (hg0 : Glob C ρ0)
    (hdst : ∀ r ∈ quiet, countEff effs r < pre.length + 1 → ∀ t, r.o.dst = some t → ∃ y, v.at t = some y)
    (hchk : ∀ r ∈ quiet, countEff effs r < pre.length + 1 → (∀ e, pre.getLast? = some e → r.wait.testBit r.no = r.wait.testBit r.no ∧ e.wait.testBit r.no = false) → chkK call r.c v s true = true)
    (hfin : es = [] → ∀ a' w', Out ρ0 s0 w0 a0 v s a' w' → Q .normal a' w')
    (heff : ∀ e es', es = e :: es' → ∀ fuel listed a w ρ, und listed ≤ fuel + 1 → Inv P ops quiet effs pre (pre.length + 1) ρ0 s0 w0 a0 listed a w v s ρ → ¬ done listed e.no → (∀ x ∈ e.o.after.toList, Region.binds .any x = true → done listed x.on) →
      wpOp P ops Q e.no (wpAny P .any ops Q fuel (listed.setIfInBounds e.no true)) a w) :
    ∀ fuel listed a w ρ, und listed ≤ fuel → Inv P ops quiet effs pre (pre.length + 1) ρ0 s0 w0 a0 listed a w v s ρ → wpAny P .any ops Q fuel listed a w := by
  have hnd : (pre ++ es).Pairwise fun r q => r.no ≠ q.no := by rw [← he, hR.heffs]; exact hR.are.nodup.filter _
  have hmemE : ∀ r ∈ effs, r ∈ rows ∧ r.eff = true := fun r hr => by rw [hR.heffs, List.mem_filter] at hr; exact hr
  have waited : ∀ {listed : Array Bool} {r : Row}, Closed ops.toList listed → r ∈ rows → (∀ e ∈ r.o.after.toList, Region.binds .any e = true → done listed e.on) → ∀ j, r.wait.testBit j = true → done listed j := fun hc hr ha j hj =>
    wait_done hc _ _ _ (hR.are.is _ hr).o (hR.are.is _ hr).wait ha j hj
  have final : ∀ listed a w ρ, Inv P ops quiet effs pre (pre.length + 1) ρ0 s0 w0 a0 listed a w v s ρ → (∀ i, i < ops.size → done listed i) → Q .normal a w := by
    intro listed a w ρ hI hall
    have hno : ∀ r ∈ rows, done listed r.no := fun r hr => hall _ (by have := (hR.are.is r hr).o; simpa using (List.getElem?_eq_some_iff.1 this).1)
    have hes : es = [] := by
      cases hes : es with
      | nil => rfl
      | cons e es' =>
        exfalso
        have hin : e ∈ effs := by rw [he, hes]; simp
        have := (hI.effd e hin).1 (hno e (hmemE e hin).1)
        exact apart_of hnd this (by rw [hes]; simp) rfl
    refine hfin hes a w ⟨⟨ρ, fun t y hy => ?_, hI.step⟩, hI.defers, hI.tsize⟩
    obtain ⟨h1, h2⟩ := hI.env t y hy
    exact ⟨h1, h2 fun r hr hd _ _ => hd (hno r (hR.mem hr).1)⟩
  intro fuel
  induction fuel with
  | zero =>
    intro listed a w ρ hu hI
    have hall : ∀ i, i < ops.size → done listed i := fun i hi => und_zero (by omega) (by rw [hI.size]; exact hi)
    refine ⟨?_, final listed a w ρ hI hall⟩
    cases hr : Region.ready .any ops listed with
    | nil => rfl
    | cons i l =>
      obtain ⟨o, ho, hd, _⟩ := (mem_ready' hI.size).1 (by rw [hr]; simp : i ∈ Region.ready .any ops listed)
      exact absurd (hall i (Array.getElem?_eq_some_iff.1 ho).1) hd
  | succ fuel ih =>
    intro listed a w ρ hu hI
    refine ⟨fun hr => final listed a w ρ hI (ready_done hR hI.size hr), fun i hi => ?_⟩
    obtain ⟨o, ho, hd, ha⟩ := (mem_ready' hI.size).1 hi
    obtain ⟨r, hr, hno⟩ := hR.are.all i (by simpa using (Array.getElem?_eq_some_iff.1 ho).1)
    subst hno
    have his := hR.are.is r hr
    have hro : r.o = o := by
      have := his.o
      rw [Array.getElem?_toList, ho] at this; exact (Option.some.inj this).symm
    subst hro
    have hlt : r.no < listed.size := by rw [hI.size]; exact (Array.getElem?_eq_some_iff.1 ho).1
    have hund := und_set hlt hd
    have hw := waited hI.closed hr ha
    cases heff' : r.eff with
    | false =>
      have hq : r ∈ quiet := by rw [hR.hquiet, List.mem_filter]; exact ⟨hr, by simp [heff']⟩
      have hcount : countEff effs r < pre.length + 1 := by
        rw [he]
        refine Nat.lt_succ_of_le (count_le hnd fun e hin hb => ?_)
        rw [← he] at hin
        exact (hI.effd e hin).1 (hw e.no hb)
      refine quiet_move hC hcall hR hI (hg0.mono hI.step.ext) hq hd ha hcount (hchk r hq hcount fun e hlast => ⟨rfl, ?_⟩) (hdst r hq hcount) fun a' w' ρ' _ hI' => ih _ a' w' ρ' (by omega) hI'
      have hpre : e ∈ pre := List.mem_of_getLast? hlast
      have hin : e ∈ effs := by rw [he]; simp [hpre]
      have hde := (hI.effd e hin).2 hpre
      cases hb : e.wait.testBit r.no with
      | false => rfl
      | true =>
        have he' := hR.are.is e (hmemE e hin).1
        exact absurd (wait_done hI.closed e.no e.o e.wait he'.o he'.wait (hI.closed e.no e.o he'.o hde) r.no hb) hd
    | true =>
      have hin : r ∈ effs := by rw [hR.heffs, List.mem_filter]; exact ⟨hr, heff'⟩
      have hnp : r ∉ pre := fun h => hd ((hI.effd r hin).2 h)
      have hes : r ∈ es := by
        rw [he, List.mem_append] at hin; exact hin.resolve_left hnp
      cases hes' : es with
      | nil => rw [hes'] at hes; cases hes
      | cons e es' =>
        rw [hes'] at hes
        rcases List.mem_cons.1 hes with rfl | hes2
        · exact heff r es' hes' fuel listed a w ρ (by omega) hI hd ha
        · exfalso
          obtain ⟨A, B, hAB⟩ := List.append_of_mem hes2
          -- the one ahead of it
          obtain ⟨A', b, hb⟩ : ∃ A' b, e :: A = A' ++ [b] := ⟨(e :: A).dropLast, (e :: A).getLast (by simp), (List.dropLast_concat_getLast (by simp)).symm⟩
          have hl : effs = (pre ++ A') ++ b :: r :: B := by
            rw [he, hes', hAB]
            have : e :: (A ++ r :: B) = (e :: A) ++ r :: B := rfl
            rw [this, hb]; simp
          have hbit := chain_prev (pre ++ A') hR.chain hl
          have hbe : b ∈ effs := by rw [hl]; simp
          have hbp := (hI.effd b hbe).1 (hw b.no hbit)
          have hbes : b ∈ es := by
            rw [hes', hAB]
            have : e :: (A ++ r :: B) = (e :: A) ++ r :: B := rfl
            rw [this, hb]; simp
          exact apart_of hnd hbp hbes rfl

theorem draw_main (hC : CtxOk P C) (hcall : CallOk P C call) (hR : Reg C ops rows quiet effs) (k : Env → St → Bool) : ∀ (es pre : List Row) (v0 : Env) (s1 : St), effs = pre ++ es → phsK call (phases quiet effs pre.length pre.getLast? es) v0 s1 k = true →
    ∃ vf sf, k vf sf = true ∧ s1.nx.num ≤ sf.nx.num ∧ ∀ (ρ0 : Rho) (s0 : St) (w0 : World) (a0 : Act) (Q : Exit → Act → World → Prop), Glob C ρ0 → NoDom ρ0 s0 sf → (∀ a' w', Out ρ0 s0 w0 a0 vf sf a' w' → Q .normal a' w') →
      (∀ r ∈ quiet, countEff effs r < pre.length → ∀ t, r.o.dst = some t → ∃ y, v0.at t = some y) →
      ∀ (fuel : Nat) (listed : Array Bool) (a : Act) (w : World) (ρ : Rho), und listed ≤ fuel → Inv P ops quiet effs pre pre.length ρ0 s0 w0 a0 listed a w v0 s1 ρ → wpAny P .any ops Q fuel listed a w := by
  intro es
  have phase : ∀ (n : Nat) (prev : Option Row) (v0 : Env) (s1 : St) (X : Env → St → Bool),
      opsK call ((quiet.filter fun r => countEff effs r == n).map (·.c)) v0 s1 (fun v s => chksK call ((quiet.filter fun r => decide (countEff effs r ≤ n) && (match prev with | none => true | some e => !(e.wait.testBit r.no))).map (·.c)) v s (X v s)) = true →
      ∃ v s, X v s = true ∧ s1.nx.num ≤ s.nx.num ∧ ((∀ p, s1.get p ≠ none → p.num < s1.nx.num) → Ran (quiet.filter fun r => countEff effs r == n) v0 s1 v s) ∧
        ∀ r ∈ quiet, countEff effs r < n + 1 → (∀ e, prev = some e → e.wait.testBit r.no = false) → chkK call r.c v s true = true := by
    intro n prev v0 s1 X hk
    have hnd : quiet.Pairwise fun r q => r.no ≠ q.no := by rw [hR.hquiet]; exact hR.are.nodup.filter _
    have hpw : (quiet.filter fun r => countEff effs r == n).Pairwise fun r q => ∀ t, r.o.dst = some t → q.o.dst ≠ some t := by
      refine (List.Pairwise.and_mem.1 (hnd.filter _)).imp fun ⟨hr, hq, hne⟩ t ht => ?_
      exact (hR.one (hR.mem (List.mem_filter.1 hq).1).1 (hR.mem (List.mem_filter.1 hr).1).1 ht).1 (Ne.symm hne)
    obtain ⟨v, s, hX, hnx, R⟩ := quiets_run hC hcall (ops := ops) _ (fun r hr => (hR.are.is r (hR.mem (List.mem_filter.1 hr).1).1).comp) (fun r hr => (hR.mem (List.mem_filter.1 hr).1).2) hpw v0 s1 _ hk
    obtain ⟨h1, h2⟩ := chksK_iff (ops := ops) hC hcall _ (fun r hr => hR.are.is r (hR.mem (List.mem_filter.1 hr).1).1) hX
    refine ⟨v, s, h2, hnx, R, fun r hr hc hp => h1 r (List.mem_filter.2 ⟨hr, ?_⟩)⟩
    rw [Bool.and_eq_true, decide_eq_true_eq]
    refine ⟨by omega, ?_⟩
    cases prev with
    | none => rfl
    | some e => simp [hp e rfl]
  have dsts : ∀ {n : Nat} {v0 v : Env} {s1 s : St}, Ran (quiet.filter fun r => countEff effs r == n) v0 s1 v s → (∀ r ∈ quiet, countEff effs r < n → ∀ t, r.o.dst = some t → ∃ y, v0.at t = some y) →
      ∀ r ∈ quiet, countEff effs r < n + 1 → ∀ t, r.o.dst = some t → ∃ y, v.at t = some y := fun {n v0 v s1 s} R h r hr hc t ht => (R.dims t).2 (by
    by_cases hl : countEff effs r < n
    · exact h r hr hl t ht
    · exact R.dst r (List.mem_filter.2 ⟨hr, by simp; omega⟩) t ht)
  induction es with
  | nil =>
    intro pre v0 s1 he hk
    obtain ⟨v, s, hX, hnx, R, hchk⟩ := phase pre.length pre.getLast? v0 s1 (fun v s => k v s) hk
    refine ⟨v, s, hX, hnx, fun ρ0 s0 w0 a0 Q hg0 hn hQ hdst fuel listed a w ρ hu hI => ?_⟩
    have R' := R hI.step.mem.frs
    exact mid hC hcall hR he hg0 (dsts R' hdst) (fun r hr hc hp => hchk r hr hc fun e h => (hp e h).2) (fun _ => hQ) (fun e es' h => by cases h) fuel listed a w ρ hu (hI.quiets hR R' (hn.next hI.step))
  | cons e es' ih =>
    intro pre v0 s1 he hk
    have hine : e ∈ effs := by rw [he]; simp
    have hrowe : e ∈ rows ∧ e.eff = true := by rw [hR.heffs, List.mem_filter] at hine; exact hine
    have hise := hR.are.is e hrowe.1
    obtain ⟨v, s, hX, hnx, R, hchk⟩ := phase pre.length pre.getLast? v0 s1 (fun v s => opsK call [e.c] v s (fun v'' s'' => phsK call (phases quiet effs (pre.length + 1) (some e) es') v'' s'' k)) hk
    obtain ⟨x, s2, hk2, hde, hnx2, hrun⟩ := eff_one hC hcall hise hX
    obtain ⟨vf, sf, hkf, hnxf, hfin⟩ := ih (pre ++ [e]) (putD v e.o.dst x) s2 (by rw [he]; simp) (by simpa using hk2)
    refine ⟨vf, sf, hkf, by omega, fun ρ0 s0 w0 a0 Q hg0 hn hQ hdst fuel listed a w ρ hu hI => ?_⟩
    have R' := R hI.step.mem.frs
    refine mid hC hcall hR he hg0 (dsts R' hdst) (fun r hr hc hp => hchk r hr hc fun e h => (hp e h).2) (fun h => by cases h) (fun e1 es1 heq fuel listed a w ρ hu hI hd ha => ?_) fuel listed a w ρ hu (hI.quiets hR R' ((hn.next hI.step).first (by omega)))
    cases heq
    have hoi : ops[e.no]? = some e.o := by simpa using hise.o
    have hlt : e.no < listed.size := by rw [hI.size]; exact (Array.getElem?_eq_some_iff.1 hoi).1
    have hund := und_set hlt hd
    have hneq : ∀ r ∈ quiet, r.no ≠ e.no := fun r hr hno => by
      have := hR.are.one r (hR.mem hr).1 e hrowe.1 hno
      subst this
      rw [hR.hquiet, List.mem_filter] at hr
      have h2 := hr.2
      simp [hrowe.2] at h2
    have hlook : ∀ t y, v.at t = some y → t < a.tmps.size ∧ (t ∈ e.looks → conc ρ y = some (a.tmps.getD t undef)) := fun t y hy => by
      obtain ⟨h1, h2⟩ := hI.env t y hy
      refine ⟨h1, fun hin => h2 fun q hq hqd _ hqt => ?_⟩
      have := (hR.one hrowe.1 (hR.mem hq).1 hqt).2 hin
      exact hqd (wait_done hI.closed e.no e.o e.wait hise.o hise.wait ha q.no this.2)
    have hnd2 : ∀ r : Row, ¬ done (listed.setIfInBounds e.no true) r.no → ¬ done listed r.no := fun r h hr => h ((done_set hlt).2 (.inr hr))
    have hput : ∀ r ∈ quiet, ∀ t y, r.o.dst = some t → (putD v e.o.dst x).at t = some y → v.at t = some y := fun r hr t y ht hy => by
      rw [at_putD hde, if_neg ((hR.one hrowe.1 (hR.mem hr).1 ht).1 (Ne.symm (hneq r hr)))] at hy; exact hy
    refine hrun ρ a w _ Q (hg0.mono hI.step.ext) hlook hI.step.mem ((hn.next hI.step).first hnxf) fun xv w' ρ' hcx hst => ?_
    refine hfin ρ0 s0 w0 a0 Q hg0 hn hQ (fun r hr hc t ht => ?_) fuel _ _ w' ρ' (by omega) ⟨by simp [hI.size], hI.closed.set hlt hise.o ha, fun r hr => ?_, fun t y hy => ?_, hI.step.trans hst, by rw [put_defers]; exact hI.defers, by rw [put_size]; exact hI.tsize, fun r hr hrd hc hra t y p ht hy hp => ?_, fun r hr hrd => ?_, fun r hr q hq hrd hqd hrc hqc hra hqa t u y z p ht hu' hy hz => ?_⟩
    · have : ∃ y, v.at t = some y := dsts R' hdst r hr (by simpa using hc) t ht
      rw [at_putD hde]
      split
      · exact ⟨_, rfl⟩
      · exact this
    · rw [done_set hlt, hI.effd r hr, List.mem_append, List.mem_singleton]
      constructor
      · rintro (h | h)
        · refine .inr (hR.are.one r ?_ e hrowe.1 h)
          rw [hR.heffs, List.mem_filter] at hr; exact hr.1
        · exact .inl h
      · rintro (h | h)
        · exact .inr h
        · exact .inl (by rw [h])
    · rw [put_size]
      rw [at_putD hde] at hy
      by_cases e2 : e.o.dst = some t
      · rw [if_pos e2] at hy; cases hy
        obtain ⟨y0, hy0⟩ := hde t e2
        have h1 := (hI.env t y0 hy0).1
        refine ⟨h1, fun _ => ?_⟩
        rw [e2]
        simp only [Act.put]
        have : (a.tmps.setIfInBounds t xv).getD t undef = xv := by simp [h1]
        rw [this]; exact hcx
      · rw [if_neg e2] at hy
        obtain ⟨h1, h2⟩ := hI.env t y hy
        refine ⟨h1, fun hns => ?_⟩
        have hsame : (a.put e.o.dst xv).tmps.getD t undef = a.tmps.getD t undef := by
          cases hd2 : e.o.dst with
          | none => rfl
          | some d =>
            have hne : d ≠ t := fun q => e2 (by rw [hd2, q])
            simp only [Act.put]
            rw [Array.getD_eq_getD_getElem?, Array.getElem?_setIfInBounds_ne hne, ← Array.getD_eq_getD_getElem?]
        rw [hsame]
        refine conc_mono hst.ext _ _ (h2 fun r hr hrd hrc => hns r hr (fun h => ?_) (by simpa using hrc))
        rcases (done_set hlt).1 h with h | h
        · exact hneq r hr h
        · exact hrd h
    · obtain ⟨g1, g2, g3⟩ := hI.ph r hr (hnd2 r hrd) (by simpa using hc) hra t y p ht (hput r hr t y ht hy) hp
      refine ⟨?_, g2, by omega⟩
      cases hρ : ρ' p with
      | none => rfl
      | some L =>
        rcases hst.dom p (by simp [hρ]) with h | h
        · exact absurd g1 h
        · omega
    · rcases (done_set hlt).1 hrd with h | h
      · exact absurd h (hneq r hr)
      · have := hI.dc r hr h
        simpa using this
    · exact hI.phd r hr q hq (hnd2 r hrd) (hnd2 q hqd) (by simpa using hrc) (by simpa using hqc) hra hqa t u y z p ht hu' (hput r hr t y ht hy) (hput q hq u z hu' hz)
theorem draw_sound (hC : CtxOk P C) (hcall : CallOk P C call) (ops : Array Oper) (l : List Ph) (h : compDraw C ops.toList = some l) (v : Env) (s : St) (k : Env → St → Bool) (hk : phsK call l v s k = true) :
    ∃ v' s', k v' s' = true ∧ s.nx.num ≤ s'.nx.num ∧ ∀ (ρ : Rho) (a : Act) (w : World) (Q : Exit → Act → World → Prop), Glob C ρ → EnvRel ρ v a.tmps → MemRel ρ s w → NoDom ρ s s' →
      (∀ a' w', Out ρ s w a v' s' a' w' → Q .normal a' w') → wpAny P .any ops Q ops.size (Array.replicate ops.size false) a w := by
  unfold compDraw at h
  split at h
  · cases h
  · rename_i cs hcs
    simp only at h
    split at h
    · rename_i hchk
      rw [Bool.and_eq_true, Bool.and_eq_true] at hchk
      cases h
      have hR : Reg C ops (rowsOf 0 (waitAll ops.toList []) ops.toList cs) _ _ := ⟨rows_are hcs, hchk.1.1, hchk.1.2, hchk.2, rfl, rfl⟩
      obtain ⟨vf, sf, h1, h2, h3⟩ := draw_main (P := P) hC hcall hR k _ [] v s (List.nil_append _).symm hk
      refine ⟨vf, sf, h1, h2, fun ρ a w Q hg he hm hn hQ => h3 ρ s w a Q hg hn hQ (fun r _ hc => by simp at hc) _ _ a w ρ ?_ ⟨by simp, ?_, ?_, ?_, Step.refl hm, rfl, rfl, ?_, ?_, ?_⟩⟩
      · unfold und; refine Nat.le_trans List.countP_le_length ?_; simp
      · intro i o _ hd
        exfalso; unfold done at hd
        rw [Array.getD_eq_getD_getElem?, Array.getElem?_replicate] at hd
        split at hd <;> simp at hd
      · intro r _
        refine ⟨fun hd => ?_, fun h => by cases h⟩
        exfalso; unfold done at hd
        rw [Array.getD_eq_getD_getElem?, Array.getElem?_replicate] at hd
        split at hd <;> simp at hd
      · exact fun t y hy => ⟨(he t y hy).1, fun _ => (he t y hy).2⟩
      · intro r _ _ hc; simp at hc
      · intro r _ hd
        exfalso; unfold done at hd
        rw [Array.getD_eq_getD_getElem?, Array.getElem?_replicate] at hd
        split at hd <;> simp at hd
      · intro r _ q _ _ _ hc; simp at hc
    · cases h
end
end Go.Ev
