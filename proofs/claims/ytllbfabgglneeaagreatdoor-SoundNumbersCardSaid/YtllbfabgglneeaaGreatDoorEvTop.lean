/- DERIVED. One call at the top: of a function whose callees are served by a table and by oracles. -/
import Derived.Test.YtllbfabgglneeaaGreatDoorEvTable
set_option linter.unusedVariables false
set_option linter.unusedSimpArgs false
namespace Go.Ev
section
variable {P : Program} {C : Ctx} {call : CallF}

noncomputable def runK (call : CallF) (fuel : Nat) (fn : Fn) (args : List IV) (s : St) (k : KO) : Bool :=
  fnK fn (fun body chunks rest res => envK rest chunks args (fun v => cdK call fuel body v s (fun v' s' => rssK v' s' res (fun l => Ev.lone l (fun x => k x s'))) (fun _ _ _ => false) (fun v' s' => rssK v' s' res (fun l => Ev.lone l (fun x => k x s')))))

theorem runK_sound (hC : CtxOk P C) (hcall : CallOk P C call) (hmix : P.follows .mixedOrders = true) (fuel : Nat) {f : FuncId} {c : Fn} (hfn : FnOk P C f c) {args : List IV} {s : St} {k : KO} (h : runK call fuel c args s k = true) :
    ∃ x s', k x s' = true ∧ s.nx.num ≤ s'.nx.num ∧ (∃ fn, P.funcs[f]? = some fn ∧ fn.body.isNone = false ∧ (fn.name == "runtime.NumGoroutine") = false) ∧
    ∀ (ρ : Rho) (w : World) (vs : List Value), Glob C ρ → concs ρ args = some vs → MemRel ρ s w → NoDom ρ s s' →
      Calls P f vs.toArray w fun e w' => ∃ xv, e = .returned xv ∧ ∃ ρ', conc ρ' x = some xv ∧ Step ρ s w ρ' s' w' := by
    obtain ⟨fn, hf, hb, hnm, hcomp⟩ := hfn
    obtain ⟨body, chunks, rest, res⟩ := c
    have hc' : envK rest chunks args (fun v => cdK call fuel body v s (fun v' s' => rssK v' s' res (fun l => Ev.lone l (fun x => k x s'))) (fun _ _ _ => false) (fun v' s' => rssK v' s' res (fun l => Ev.lone l (fun x => k x s')))) = true := h
    obtain ⟨v, hk, hlen, hv⟩ := envK_iff _ _ _ _ hc'
    simp only [compF] at hcomp
    split at hcomp
    · rename_i code hcode
      split at hcomp <;> cases hcomp
      rename_i hcd hrs
      obtain ⟨e, v1, s1, hgo, hnx, hrun, _⟩ := code_sound hC hcall hmix fuel code body hcd v s _ _ _ hk
      have main : (e = .normal ∨ e = .ret) → rssK v1 s1 res (fun l => Ev.lone l (fun x => k x s1)) = true →
          ∃ x s', k x s' = true ∧ s.nx.num ≤ s'.nx.num ∧ (∃ fn, P.funcs[f]? = some fn ∧ fn.body.isNone = false ∧ (fn.name == "runtime.NumGoroutine") = false) ∧
            ∀ (ρ : Rho) (w : World) (vs : List Value), Glob C ρ → concs ρ args = some vs → MemRel ρ s w → NoDom ρ s s' →
              Calls P f vs.toArray w fun e w' => ∃ xv, e = .returned xv ∧ ∃ ρ', conc ρ' x = some xv ∧ Step ρ s w ρ' s' w' := by
        intro he hres
        obtain ⟨x, hkx, hfin⟩ := finish_sound (P := P) hC hrs hres
        refine ⟨x, s1, hkx, hnx, ⟨fn, hf, hb, hnm⟩, fun ρ w vs hg hcs hm hn => calls_of_wp hf hcode ?_⟩
        refine hrun ρ _ w _ hg (env_first hcs (n := fn.ntmps) (by omega) hlen hv) hm hn fun a' w' ho => ?_
        obtain ⟨ρ1, he1, hst1⟩ := ho.ex
        obtain ⟨u, hu1, hu2⟩ := hfin ρ1 a' w' (hg.mono hst1.ext) he1 hst1.mem
        rcases he with rfl | rfl
        · exact ⟨ho.defers, u, hu1, u, rfl, ρ1, hu2, hst1⟩
        · exact ⟨ho.defers, u, hu1, u, rfl, ρ1, hu2, hst1⟩
      cases e with
      | normal => exact main (.inl rfl) hgo
      | ret => exact main (.inr rfl) hgo
      | exit id => cases hgo
      | _ => exact hgo.elim
    · cases hcomp

/-! ### Nothing old is turned -/
/-- Whatever was there is there unturned. -/
structure Kept (w w' : World) : Prop where
  size : w.heap.size ≤ w'.heap.size
  old : ∀ c, c < w.heap.size → w'.heap[c]? = w.heap[c]?
  os : w'.os = w.os
  out : w'.output = w.output
theorem Kept.refl (w : World) : Kept w w := ⟨Nat.le_refl _, fun _ _ => rfl, rfl, rfl⟩
theorem Kept.trans {a b c : World} (h : Kept a b) (g : Kept b c) : Kept a c :=
  ⟨Nat.le_trans h.size g.size, fun i hi => (g.old i (Nat.lt_of_lt_of_le hi h.size)).trans (h.old i hi), g.os.trans h.os, g.out.trans h.out⟩
theorem Kept.turned {w w' : World} (h : Turned w w' w.heap) : Kept w w' := ⟨by rw [h.heap]; exact Nat.le_refl _, fun _ _ => by rw [h.heap], h.os, h.out⟩
theorem Step.kept {ρ ρ' : Rho} {s s' : St} {w w' : World} (h : Step ρ s w ρ' s' w') (hro : ∀ p b, s.get p = some b → b.ro = true) : Kept w w' :=
  ⟨h.size, fun c hc => h.frame c hc fun p L b _ _ hb => hro p b hb, h.lk.1, h.lk.2⟩
theorem Step.of_kept {ρ : Rho} {s : St} {w w' : World} (hm : MemRel ρ s w) (h : Kept w w') : Step ρ s w ρ s w' where
  ext := .refl ρ
  mem := ⟨fun p L b hp hb => by rw [h.old _ (hm.bnd p L hp)]; exact hm.blk p L b hp hb, hm.inj, fun p L hp => Nat.lt_of_lt_of_le (hm.bnd p L hp) h.size, hm.frs⟩
  size := h.size
  nx := Nat.le_refl _
  dom := fun _ hp => .inl hp
  frame := fun c hc _ => h.old c hc
  own := fun p L b hp hb hr _ => ⟨p, L, b, hp, rfl, hb, hr⟩
  lk := ⟨h.os, h.out⟩

/-! ### Places, by every answer -/
noncomputable def eachK (l : List Nat) (f : Nat → Bool) : Bool := List.rec (motive := fun _ => Bool) true (fun j r ih => List.rec (motive := fun _ => Bool) (f j) (fun _ _ _ => boolK (f j) ih false) r) l
theorem eachK_iff (l : List Nat) (f : Nat → Bool) : eachK l f = true ↔ ∀ j ∈ l, f j = true := by
  induction l with
  | nil =>
    have h1 : eachK [] f = true := rfl
    simp [h1]
  | cons j r ih =>
    cases r with
    | nil =>
      have h1 : eachK [j] f = f j := rfl
      simp [h1]
    | cons x r =>
      have h1 : eachK (j :: x :: r) f = boolK (f j) (eachK (x :: r) f) false := rfl
      rw [h1, boolK_t, ih]
      simp
/-- 'Place': a number's place among so many: by those answers that 'p' lists; 'q', which is not looked into, says that the answer is one of these. -/
noncomputable def placeK (p : Nat → List Nat) (q : Int → Int → Bool) : List IV → St → KO → Bool := fun args s k => two args (fun x y => asInt x (fun t a => asInt y (fun u n => boolK (kindEq t .i64) (boolK (kindEq u .i64) (boolK (ilt 0 n) (boolK (ilt n 1000000)
  (boolK (eachK (p n.toNat) (fun j => k (.int .i64 (.ofNat j)) s)) (q a n) false) false) false) false) false)))
def HasBody (P : Program) (f : FuncId) : Prop := ∃ fn, P.funcs[f]? = some fn ∧ fn.body.isNone = false ∧ (fn.name == "runtime.NumGoroutine") = false
structure PlaceOk (P : Program) (f : FuncId) : Prop where
  fn : HasBody P f
  run : ∀ (a n : Int) (w : World), 0 < n → n < 1000000 → Calls P f #[.int .i64 a, .int .i64 n] w fun e w' => e = .returned (.int .i64 (a % n)) ∧ Turned w w' w.heap

/-! ### What is known to be true -/
noncomputable def awakeK (ty : TypeId) : List IV → St → KO → Bool := fun args s k =>
  List.rec (motive := fun _ => Bool) (getC s .e (fun cs wr sz t => boolK wr false (boolK (Nat.beq sz 0) (boolK (Nat.beq t ty)
    (List.rec (motive := fun _ => Bool) false (fun x r _ => List.rec (motive := fun _ => Bool) (asInt x (fun u _ => boolK (kindEq u .i64) (k (.bool true) s) false)) (fun _ _ _ => false) r) cs) false) false))) (fun _ _ _ => false) args
structure AwakeOk (P : Program) (C : Ctx) (ty : TypeId) (f : FuncId) : Prop where
  fn : HasBody P f
  run : ∀ (ρ : Rho) (s : St) (w : World) (m : Int), Glob C ρ → MemRel ρ s w → s.get .e = some (.cells [.int .i64 m] false 0 ty) → Calls P f #[] w fun e w' => e = .returned (.bool true) ∧ Kept w w'

/-- Calls by a table, by places, by what is known to be true. -/
noncomputable def callO (p : Nat → List Nat) (q : Int → Int → Bool) (pl aw : FuncId) (ty : TypeId) (call : CallF) : CallF := fun f args s k => boolK (Nat.beq f pl) (placeK p q args s k) (boolK (Nat.beq f aw) (awakeK ty args s k) (call f args s k))
theorem callO_sound {p : Nat → List Nat} {q : Int → Int → Bool} (hpq : ∀ a n, q a n = true → (a % n).toNat ∈ p n.toNat) {pl aw : FuncId} {ty : TypeId} (hp : PlaceOk P pl) (ha : AwakeOk P C ty aw) (hcall : CallOk P C call) : CallOk P C (callO p q pl aw ty call) := by
  intro f args s k h
  have h' : boolK (Nat.beq f pl) (placeK p q args s k) (boolK (Nat.beq f aw) (awakeK ty args s k) (call f args s k)) = true := h
  rw [boolK_iff] at h'
  rcases h' with ⟨e, h1⟩ | ⟨e, h1⟩
  · have := Nat.eq_of_beq_eq_true e; subst this
    simp only [placeK, two_iff, asInt_iff, boolK_t, kindEq_iff, ilt_t, eachK_iff] at h1
    obtain ⟨x, y, rfl, t, a, rfl, u, n, rfl, rfl, rfl, h2, h3, h4, hq⟩ := h1
    have hnn : Int.ofNat (a % n).toNat = a % n := Int.toNat_of_nonneg (Int.emod_nonneg a (Int.ne_of_gt h2))
    have hk4 : k (.int .i64 (.ofNat (a % n).toNat)) s = true := h4 _ (hpq a n hq)
    refine ⟨_, s, hk4, Nat.le_refl _, hp.fn, fun ρ w vs hg hcs hm hn => ?_⟩
    simp [concs, conc] at hcs
    subst hcs
    refine (hp.run a n w h2 h3).mono fun e w' ⟨h5, h6⟩ => ⟨_, h5, ρ, ?_, Step.same hm h6⟩
    rw [hnn]; simp [conc]
  · rw [boolK_iff] at h1
    rcases h1 with ⟨e2, h1⟩ | ⟨e2, h1⟩
    · have := Nat.eq_of_beq_eq_true e2; subst this
      cases args with
      | cons x r => cases h1
      | nil =>
        have h2 : getC s .e (fun cs wr sz t => boolK wr false (boolK (Nat.beq sz 0) (boolK (Nat.beq t ty)
          (List.rec (motive := fun _ => Bool) false (fun x r _ => List.rec (motive := fun _ => Bool) (asInt x (fun u _ => boolK (kindEq u .i64) (k (.bool true) s) false)) (fun _ _ _ => false) r) cs) false) false)) = true := h1
        rw [getC_iff] at h2
        obtain ⟨cs, wr, sz, t, hs, h3⟩ := h2
        rw [boolK_f, boolK_t, boolK_t] at h3
        obtain ⟨rfl, h4, h5, h6⟩ := h3
        have := Nat.eq_of_beq_eq_true h4; subst this
        have := Nat.eq_of_beq_eq_true h5; subst this
        match cs, h6 with
        | [x], h6 =>
          have h7 : asInt x (fun u _ => boolK (kindEq u .i64) (k (.bool true) s) false) = true := h6
          simp only [asInt_iff, boolK_t, kindEq_iff] at h7
          obtain ⟨u, m, rfl, rfl, hk⟩ := h7
          refine ⟨_, s, hk, Nat.le_refl _, ha.fn, fun ρ w vs hg hcs hm hn => ?_⟩
          simp [concs] at hcs
          subst hcs
          exact (ha.run ρ s w m hg hm hs).mono fun e w' ⟨h8, h9⟩ => ⟨_, h8, ρ, by simp [conc], Step.of_kept hm h9⟩
    · exact hcall f args s k h1
theorem CallOk.glob {C' : Ctx} (e : C'.glob = C.glob) (h : CallOk P C call) : CallOk P C' call := fun f args s k hk => by
  obtain ⟨x, s', h1, h2, h3, h4⟩ := h f args s k hk
  exact ⟨x, s', h1, h2, h3, fun ρ w vs hg => h4 ρ w vs (fun g hgg => hg g (by rw [e]; exact hgg))⟩

/-! ### 'awake', once and for all -/
theorem ofNat_num : ∀ n, (P2.ofNat n).num = n + 1
  | 0 => rfl
  | n + 1 => by rw [P2.ofNat, P2.num_succ, ofNat_num n]
noncomputable def isTrue (x : IV) (_ : St) : Bool := asBool x (fun b => b)
/-- A world's memory, as far as 'awake' looks: one number. -/
noncomputable def oneSt (ty : TypeId) (G : Nat) (m : Int) : St := { m := .node .leaf (some (.cells [.int .i64 m] false 0 ty)) .leaf, nx := P2.ofNat G }
theorem oneSt_get {ty : TypeId} {G : Nat} {m : Int} {p : P2} {b : Blk} (h : (oneSt ty G m).get p = some b) : p = .e ∧ b = .cells [.int .i64 m] false 0 ty := by
  cases p with
  | e => simp [oneSt, St.get, tget] at h; exact ⟨rfl, h.symm⟩
  | o p => simp [oneSt, St.get, tget] at h
  | i p => simp [oneSt, St.get, tget] at h
theorem awake_of {ty : TypeId} {G : Nat} (hG : 0 < G) (hglob : ∀ g, C.glob g = true → g < G) (hcall : CallOk P C call) {f : FuncId} (hfn : HasBody P f) (h : ∀ m, call f [] (oneSt ty G m) isTrue = true) : AwakeOk P C ty f where
  fn := hfn
  run := fun ρ s w m hg hm hs => by
    obtain ⟨x, s', hk, hnx, _, hrun⟩ := hcall _ _ _ _ (h m)
    have hx : x = .bool true := by
      simp only [isTrue, asBool_iff] at hk
      obtain ⟨b, rfl, rfl⟩ := hk; rfl
    subst hx
    let ρ0 : Rho := fun p => if p.num < (P2.ofNat G).num then ρ p else none
    have hsub : ∀ p L, ρ0 p = some L → ρ p = some L ∧ p.num < (P2.ofNat G).num := fun p L hp => by
      simp only [ρ0] at hp; split at hp
      · rename_i hlt; exact ⟨hp, hlt⟩
      · cases hp
    have hg0 : Glob C ρ0 := fun g hgg => by
      obtain ⟨cap, hc⟩ := hg g hgg
      refine ⟨cap, ?_⟩
      have := hglob g hgg
      simp only [ρ0]
      rw [if_pos (by rw [ofNat_num, ofNat_num]; omega), hc]
    have hm0 : MemRel ρ0 (oneSt ty G m) w := by
      refine ⟨?_, ?_, ?_, ?_⟩
      · intro p L b hp hb
        obtain ⟨rfl, rfl⟩ := oneSt_get hb
        obtain ⟨arr, fr, h1, h2, h3, h4, h5⟩ := hm.blk _ _ _ (hsub _ _ hp).1 hs
        refine ⟨arr, fr, h1, h2, fun j x hj => ?_, h4, h5⟩
        obtain ⟨v, hv, ha⟩ := h3 j x hj
        cases j with
        | zero => simp at hj; subst hj; simp [conc] at hv; exact ⟨v, by simp [conc, hv], ha⟩
        | succ j => simp at hj
      · intro p q L M _ _ h1 h2 _
        cases hb : (oneSt ty G m).get p with
        | none => exact absurd hb h1
        | some b => cases hc : (oneSt ty G m).get q with
          | none => exact absurd hc h2
          | some c => exact .inl (by rw [(oneSt_get hb).1, (oneSt_get hc).1])
      · intro p L hp; exact hm.bnd p L (hsub p L hp).1
      · intro p hp
        cases hb : (oneSt ty G m).get p with
        | none => exact absurd hb hp
        | some b =>
          rw [(oneSt_get hb).1]
          show (1 : Nat) < (P2.ofNat G).num
          rw [ofNat_num]; omega
    refine (hrun ρ0 w [] hg0 rfl hm0 fun p h1 _ => ?_).mono fun e w' ⟨xv, he, ρ', hx, hst⟩ => ?_
    · have h1' : (P2.ofNat G).num ≤ p.num := h1
      simp only [ρ0]
      rw [if_neg (by omega)]
    · simp [conc] at hx
      subst hx
      refine ⟨he, hst.kept fun p b hb => ?_⟩
      rw [(oneSt_get hb).2]; rfl

/-- A call at the top that says true. -/
theorem top_sound (hC : CtxOk P C) (hcall : CallOk P C call) (hmix : P.follows .mixedOrders = true) (fuel : Nat) {f : FuncId} {c : Fn} (hfn : FnOk P C f c) {args : List IV} {s : St} (h : runK call fuel c args s isTrue = true)
    {ρ : Rho} {w : World} {vs : List Value} (hg : Glob C ρ) (hcs : concs ρ args = some vs) (hm : MemRel ρ s w) (hdom : ∀ p, s.nx.num ≤ p.num → ρ p = none) (hro : ∀ p b, s.get p = some b → b.ro = true) :
    Calls P f vs.toArray w fun e w' => e = .returned (.bool true) ∧ Kept w w' := by
  obtain ⟨x, s', hk, hnx, _, hrun⟩ := runK_sound hC hcall hmix fuel hfn h
  have hx : x = .bool true := by
    simp only [isTrue, asBool_iff] at hk
    obtain ⟨b, rfl, rfl⟩ := hk; rfl
  subst hx
  refine (hrun ρ w vs hg hcs hm fun p h1 _ => hdom p h1).mono fun e w' ⟨xv, he, ρ', hx, hst⟩ => ?_
  simp [conc] at hx
  subst hx
  exact ⟨he, hst.kept hro⟩
end
end Go.Ev
