/- DERIVED. Code and calls: the ideal machine's against the model's. -/
import Derived.Test.YtllbfabgglneeaaGreatDoorEvDraw
set_option linter.unusedVariables false
namespace Go.Ev
section
variable {P : Program} {C : Ctx} {call : CallF}

/-! ### Loops by rounds -/
def Rounds (P : Program) (c : Code) (Q : Exit → Act → World → Prop) : Nat → Act → World → Prop
  | 0, _, _ => False
  | n + 1, a, w => c.wp P (Exit.then (Rounds P c Q n) Q) a w
theorem Exit.then_mono {N N' : Act → World → Prop} {Q Q' : Exit → Act → World → Prop} (h : ∀ a w, N a w → N' a w) (g : ∀ e a w, Q e a w → Q' e a w) (e : Exit) (a : Act) (w : World) (x : Exit.then N Q e a w) : Exit.then N' Q' e a w := by
  cases e <;> first | exact h _ _ x | exact g _ _ _ x
theorem Rounds.mono {c : Code} {Q Q' : Exit → Act → World → Prop} (h : ∀ e a w, Q e a w → Q' e a w) : ∀ (n : Nat) (a : Act) (w : World), Rounds P c Q n a w → Rounds P c Q' n a w
  | 0, _, _, x => x
  | n + 1, a, w, x => wp_mono x fun e a w => Exit.then_mono (Rounds.mono h n) h e a w
theorem least {p : Nat → Prop} (h : ∃ n, p n) : ∃ n, p n ∧ ∀ m, p m → n ≤ m := by
  obtain ⟨n, hn⟩ := h
  induction n using Nat.strongRecOn with
  | _ n ih =>
    by_cases hx : ∃ m, m < n ∧ p m
    · obtain ⟨m, hm, hp⟩ := hx; exact ih m hm hp
    · exact ⟨n, hn, fun m hm => by
        rcases Nat.lt_or_ge m n with q | q
        · exact absurd ⟨m, q, hm⟩ hx
        · exact q⟩
open Classical in
theorem wp_rounds {c : Code} {Q : Exit → Act → World → Prop} {n : Nat} {a : Act} {w : World} (h : Rounds P c Q n a w) : (Code.loop c).wp P Q a w := by
  let I : Act → World → Prop := fun a w => ∃ n, Rounds P c Q n a w
  let μ : Act → World → Nat := fun a w => if h : I a w then (least h).choose else 0
  refine wp_loop I μ ⟨n, h⟩ fun a w hI => ?_
  have h1 : Rounds P c Q (least hI).choose a w := (least hI).choose_spec.1
  have hμ : μ a w = (least hI).choose := dif_pos hI
  cases hn : (least hI).choose with
  | zero => rw [hn] at h1; exact h1.elim
  | succ m =>
    rw [hn] at h1
    refine wp_mono h1 fun e a' w' => Exit.then_mono (fun a' w' hr => ⟨⟨m, hr⟩, ?_⟩) (fun _ _ _ q => q) e a' w'
    have hI' : I a' w' := ⟨m, hr⟩
    have : μ a' w' = (least hI').choose := dif_pos hI'
    rw [this, hμ, hn]
    exact Nat.lt_succ_of_le ((least hI').choose_spec.2 m hr)

/-! ### Code -/
/-- How the ideal machine goes on. -/
def Goes (kn : KC) (ke : Nat → KC) (kr : KC) (e : Exit) (v : Env) (s : St) : Prop := match e with
  | .normal => kn v s = true
  | .exit id => ke id v s = true
  | .ret => kr v s = true
  | _ => False
def RunsTo (P : Program) (C : Ctx) (v : Env) (s : St) (v' : Env) (s' : St) (W : (Exit → Act → World → Prop) → Act → World → Prop) (e : Exit) : Prop :=
  ∀ (ρ : Rho) (a : Act) (w : World) (Q : Exit → Act → World → Prop), Glob C ρ → EnvRel ρ v a.tmps → MemRel ρ s w → NoDom ρ s s' → (∀ a' w', Out ρ s w a v' s' a' w' → Q e a' w') → W Q a w

theorem cdK_zero (c : Cd) (v : Env) (s : St) (kn : KC) (ke : Nat → KC) (kr : KC) : cdK call 0 c v s kn ke kr = false := rfl

theorem code_sound (hC : CtxOk P C) (hcall : CallOk P C call) (hmix : P.follows .mixedOrders = true) : ∀ (n : Nat) (code : Code) (c : Cd), compC C code = some c → ∀ (v : Env) (s : St) (kn : KC) (ke : Nat → KC) (kr : KC), cdK call n c v s kn ke kr = true →
    ∃ e v' s', Goes kn ke kr e v' s' ∧ s.nx.num ≤ s'.nx.num ∧ RunsTo P C v s v' s' (fun Q a w => code.wp P Q a w) e ∧
      ∀ code', code = .loop code' → ∃ j, RunsTo P C v s v' s' (fun Q a w => Rounds P code' Q j a w) e := by
  intro n
  induction n with
  | zero => intro code c _ v s kn ke kr hk; cases hk
  | succ n ihn =>
    intro code
    induction code with
    | skip =>
      intro c hc v s kn ke kr hk
      simp only [compC, Option.some.injEq] at hc; subst hc
      exact ⟨.normal, v, s, hk, Nat.le_refl _, fun ρ a w Q hg he hm hn hQ => wp_skip (hQ _ _ ⟨⟨ρ, he, Step.refl hm⟩, rfl, rfl⟩), fun _ h => by cases h⟩
    | label l =>
      intro c hc v s kn ke kr hk
      simp only [compC, Option.some.injEq] at hc; subst hc
      exact ⟨.normal, v, s, hk, Nat.le_refl _, fun ρ a w Q hg he hm hn hQ => wp_label (hQ _ _ ⟨⟨ρ, he, Step.refl hm⟩, rfl, rfl⟩), fun _ h => by cases h⟩
    | ret =>
      intro c hc v s kn ke kr hk
      simp only [compC, Option.some.injEq] at hc; subst hc
      exact ⟨.ret, v, s, hk, Nat.le_refl _, fun ρ a w Q hg he hm hn hQ => wp_ret (hQ _ _ ⟨⟨ρ, he, Step.refl hm⟩, rfl, rfl⟩), fun _ h => by cases h⟩
    | exit id =>
      intro c hc v s kn ke kr hk
      simp only [compC, Option.some.injEq] at hc; subst hc
      exact ⟨.exit id, v, s, hk, Nat.le_refl _, fun ρ a w Q hg he hm hn hQ => wp_exit (hQ _ _ ⟨⟨ρ, he, Step.refl hm⟩, rfl, rfl⟩), fun _ h => by cases h⟩
    | region id ops draw =>
      intro c hc v s kn ke kr hk
      cases draw with
      | false =>
        simp only [compC, Option.map_eq_some_iff] at hc
        obtain ⟨cs, hcs, rfl⟩ := hc
        obtain ⟨v', s', hk', hnx, hw⟩ := opsK_sound hC hcall ops ops.toList 0 cs (by simp) hcs v s kn hk
        refine ⟨.normal, v', s', hk', hnx, fun ρ a w Q hg he hm hn hQ => wp_region ?_, fun _ h => by cases h⟩
        have := hw ρ a w Q hg he hm hn hQ
        rw [← List.range_eq_range'] at this
        simpa using this
      | true =>
        simp only [compC] at hc
        split at hc
        · rename_i l hl
          cases hc
          obtain ⟨v', s', hk', hnx, hw⟩ := draw_sound hC hcall ops l hl v s kn hk
          refine ⟨.normal, v', s', hk', hnx, fun ρ a w Q hg he hm hn hQ => wp_region_any hmix ?_, fun _ h => by cases h⟩
          refine hw ρ a _ Q hg he (hm.heap rfl) hn fun a' w' ho => hQ a' w' ⟨?_, ho.defers, ho.size⟩
          obtain ⟨ρ', h1, h2⟩ := ho.ex
          exact ⟨ρ', h1, (Step.same hm (w' := { w with drawn := w.drawn + 1 }) rfl).trans h2⟩
        · cases hc; cases hk
    | seq x y ihx ihy =>
      intro c hc v s kn ke kr hk
      simp only [compC] at hc
      split at hc <;> cases hc
      rename_i cx cy hx hy
      obtain ⟨e1, v1, s1, hg1, hn1, hw1, _⟩ := ihx cx hx v s (fun v' s' => cdK call (n + 1) cy v' s' kn ke kr) ke kr hk
      cases e1 with
      | normal =>
        obtain ⟨e2, v2, s2, hg2, hn2, hw2, _⟩ := ihy cy hy v1 s1 kn ke kr hg1
        refine ⟨e2, v2, s2, hg2, Nat.le_trans hn1 hn2, fun ρ a w Q hg he hm hn hQ => wp_seq (hw1 ρ a w _ hg he hm (hn.first hn2) fun a1 w1 ho => ?_), fun _ h => by cases h⟩
        obtain ⟨ρ1, he1, hst1⟩ := ho.ex
        exact hw2 ρ1 a1 w1 Q (hg.mono hst1.ext) he1 hst1.mem (hn.next hst1) fun a2 w2 ho2 => hQ a2 w2 (by
          obtain ⟨ρ2, he2, hst2⟩ := ho2.ex
          exact ⟨⟨ρ2, he2, hst1.trans hst2⟩, ho2.defers.trans ho.defers, ho2.size.trans ho.size⟩)
      | exit id => exact ⟨.exit id, v1, s1, hg1, hn1, fun ρ a w Q hg he hm hn hQ => wp_seq (hw1 ρ a w _ hg he hm hn hQ), fun _ h => by cases h⟩
      | ret => exact ⟨.ret, v1, s1, hg1, hn1, fun ρ a w Q hg he hm hn hQ => wp_seq (hw1 ρ a w _ hg he hm hn hQ), fun _ h => by cases h⟩
      | _ => exact hg1.elim
    | cond x th el iht ihe =>
      intro c hc v s kn ke kr hk
      simp only [compC] at hc
      split at hc <;> cases hc
      rename_i cx ct ce hx ht he
      have hk' : getK v cx (fun y => asBool y (fun b => boolK b (cdK call (n + 1) ct v s kn ke kr) (cdK call (n + 1) ce v s kn ke kr))) = true := hk
      simp only [getK_iff, asBool_iff, boolK_iff] at hk'
      obtain ⟨y, hy, b, rfl, ⟨rfl, hk'⟩ | ⟨rfl, hk'⟩⟩ := hk'
      · obtain ⟨e1, v1, s1, hg1, hn1, hw1, _⟩ := iht ct ht v s kn ke kr hk'
        exact ⟨e1, v1, s1, hg1, hn1, fun ρ a w Q hg he hm hn hQ => wp_cond_true (bool_inv (od_conc hg he hx hy)) (hw1 ρ a w Q hg he hm hn hQ), fun _ h => by cases h⟩
      · obtain ⟨e1, v1, s1, hg1, hn1, hw1, _⟩ := ihe ce he v s kn ke kr hk'
        exact ⟨e1, v1, s1, hg1, hn1, fun ρ a w Q hg he hm hn hQ => wp_cond_false (bool_inv (od_conc hg he hx hy)) (hw1 ρ a w Q hg he hm hn hQ), fun _ h => by cases h⟩
    | block id b ih =>
      intro c hc v s kn ke kr hk
      simp only [compC, Option.map_eq_some_iff] at hc
      obtain ⟨cb, hb, rfl⟩ := hc
      obtain ⟨e1, v1, s1, hg1, hn1, hw1, _⟩ := ih cb hb v s kn (fun id' v' s' => boolK (Nat.beq id' id) (kn v' s') (ke id' v' s')) kr hk
      cases e1 with
      | normal => exact ⟨.normal, v1, s1, hg1, hn1, fun ρ a w Q hg he hm hn hQ => wp_block (hw1 ρ a w _ hg he hm hn hQ), fun _ h => by cases h⟩
      | exit id' =>
        have hg1' : boolK (Nat.beq id' id) (kn v1 s1) (ke id' v1 s1) = true := hg1
        rw [boolK_iff] at hg1'
        rcases hg1' with ⟨e0, hkn⟩ | ⟨e0, hke⟩
        · have e : id' = id := Nat.eq_of_beq_eq_true e0
          exact ⟨.normal, v1, s1, hkn, hn1, fun ρ a w Q hg he hm hn hQ => wp_block (hw1 ρ a w _ hg he hm hn fun a' w' ho => by simp only [Exit.inBlock, e, if_true]; exact hQ a' w' ho), fun _ h => by cases h⟩
        · have e : id' ≠ id := Nat.ne_of_beq_eq_false e0
          exact ⟨.exit id', v1, s1, hke, hn1, fun ρ a w Q hg he hm hn hQ => wp_block (hw1 ρ a w _ hg he hm hn fun a' w' ho => by simp only [Exit.inBlock, e, if_false]; exact hQ a' w' ho), fun _ h => by cases h⟩
      | ret => exact ⟨.ret, v1, s1, hg1, hn1, fun ρ a w Q hg he hm hn hQ => wp_block (hw1 ρ a w _ hg he hm hn hQ), fun _ h => by cases h⟩
      | _ => exact hg1.elim
    | loop b ih =>
      intro c hc v s kn ke kr hk
      simp only [compC, Option.map_eq_some_iff] at hc
      obtain ⟨cb, hb, rfl⟩ := hc
      have hloop : compC C (.loop b) = some (.loop cb) := by simp [compC, hb]
      obtain ⟨e1, v1, s1, hg1, hn1, hw1, _⟩ := ih cb hb v s (fun v' s' => cdK call n (.loop cb) v' s' kn ke kr) ke kr hk
      have fin : ∀ e v' s', Goes kn ke kr e v' s' → s.nx.num ≤ s'.nx.num → (∃ j, RunsTo P C v s v' s' (fun Q a w => Rounds P b Q j a w) e) →
          ∃ e v' s', Goes kn ke kr e v' s' ∧ s.nx.num ≤ s'.nx.num ∧ RunsTo P C v s v' s' (fun Q a w => (Code.loop b).wp P Q a w) e ∧ ∀ code', Code.loop b = .loop code' → ∃ j, RunsTo P C v s v' s' (fun Q a w => Rounds P code' Q j a w) e := by
        intro e v' s' h1 h2 h3
        obtain ⟨j, hj⟩ := h3
        exact ⟨e, v', s', h1, h2, fun ρ a w Q hg he hm hn hQ => wp_rounds (hj ρ a w Q hg he hm hn hQ), fun code' hc' => by cases hc'; exact ⟨j, hj⟩⟩
      cases e1 with
      | normal =>
        obtain ⟨e2, v2, s2, hg2, hn2, _, hr2⟩ := ihn (.loop b) (.loop cb) hloop v1 s1 kn ke kr hg1
        obtain ⟨j, hj⟩ := hr2 b rfl
        refine fin e2 v2 s2 hg2 (Nat.le_trans hn1 hn2) ⟨j + 1, fun ρ a w Q hg he hm hn hQ => hw1 ρ a w _ hg he hm (hn.first hn2) fun a1 w1 ho => ?_⟩
        obtain ⟨ρ1, he1, hst1⟩ := ho.ex
        exact hj ρ1 a1 w1 Q (hg.mono hst1.ext) he1 hst1.mem (hn.next hst1) fun a2 w2 ho2 => hQ a2 w2 (by
          obtain ⟨ρ2, he2, hst2⟩ := ho2.ex
          exact ⟨⟨ρ2, he2, hst1.trans hst2⟩, ho2.defers.trans ho.defers, ho2.size.trans ho.size⟩)
      | exit id => exact fin (.exit id) v1 s1 hg1 hn1 ⟨1, fun ρ a w Q hg he hm hn hQ => hw1 ρ a w _ hg he hm hn hQ⟩
      | ret => exact fin .ret v1 s1 hg1 hn1 ⟨1, fun ρ a w Q hg he hm hn hQ => hw1 ρ a w _ hg he hm hn hQ⟩
      | _ => exact hg1.elim
    | _ =>
      intro c hc v s kn ke kr hk
      simp [compC] at hc
      subst hc; cases hk
end
end Go.Ev
