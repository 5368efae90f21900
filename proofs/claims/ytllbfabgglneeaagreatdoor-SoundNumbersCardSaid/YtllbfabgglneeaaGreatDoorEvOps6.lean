/- DERIVED. The ideal machine's operations against the model's: interfaces, lengths, bounds, slicing. -/
import Derived.Test.YtllbfabgglneeaaGreatDoorEvOps5
set_option linter.unusedVariables false
namespace Go.Ev
section
variable {P : Program} {C : Ctx} {o : Oper} {v : Env} {s : St} {k : KO}

theorem snd_eqI {t ty' : TypeId} {i : TI} {x y : Operand} {x' y' : Od} {neg : Bool} (ho : o.op = .binOp (if neg then .neq else .eql) t x y ty') (hi : TIok P t i) (hd : i.d = .iface) (hlit : (isC x || isC y) = true) (hx : od C x = some x') (hy : od C y = some y')
    (h : oEq neg .ifc x' y' v s k = true) : ∃ x s', k x s' = true ∧ Snd P C o v s x s' := by
  simp only [oEq, getK_iff] at h
  obtain ⟨a1, ha1, a2, ha2, h⟩ := h
  obtain ⟨ms, hu⟩ := und_iface hi hd
  have fin : ∀ r, boolK neg (boolK r (k (.bool false) s) (k (.bool true) s)) (boolK r (k (.bool true) s) (k (.bool false) s)) = true →
      (∀ (ρ : Rho) vx vy, conc ρ a1 = some vx → conc ρ a2 = some vy → ((vx = .nilIface ∨ ∃ t u, vx = .iface t u) ∧ (vy = .nilIface ∨ ∃ t u, vy = .iface t u)) ∧ ∀ w : World, (Op.equal t vx vy).run P w = .ok r w) →
      ∃ x s', k x s' = true ∧ Snd P C o v s x s' := by
    intro r hk hr
    have hk' : k (.bool (r != neg)) s = true := by cases neg <;> cases r <;> simpa [boolK] using hk
    refine ⟨_, s, hk', .pure fun ρ a w hg he hm => ⟨.bool (r != neg), w, ?_, rfl, by simp [conc]⟩⟩
    obtain ⟨⟨f1, f2⟩, f3⟩ := hr ρ _ _ (od_conc hg he hx ha1) (od_conc hg he hy ha2)
    have hg2 : (eqGuard (if neg then .neq else .eql) t x y (a.eval x) (a.eval y)).run P w = .ok () w := by
      rcases f1 with f1 | ⟨t1, u1, f1⟩
      · rcases f2 with f2 | ⟨t2, u2, f2⟩
        · rw [f1, f2]
          clear f1 f2 f3
          cases neg <;> cases x <;> cases y <;> first | rfl | (simp [isC] at hlit; done)
        · rw [f1, f2]; exact guard_plain (by simp) (by simp) w
      · rw [f1]; exact guard_plain (by simp) (by simp) w
    have hb : ∀ _ : Nat, Go.binOp .eql t (a.eval x) (a.eval y) = (do pure (.bool (← Op.equal t (a.eval x) (a.eval y)))) ∧ Go.binOp .neq t (a.eval x) (a.eval y) = (do pure (.bool (!(← Op.equal t (a.eval x) (a.eval y))))) := by
      intro _
      rcases f1 with f1 | ⟨t1, u1, f1⟩ <;> rw [f1] <;> exact ⟨rfl, rfl⟩
    simp only [execOp, ho, Sem.run_bind, hg2, Result.andThen_ok]
    cases neg
    · simp [(hb 0).1, f3 w]
    · simp [(hb 0).2, f3 w]
  rcases eq_ifc h with ⟨rfl, rfl, hk⟩ | ⟨t1, u1, rfl, rfl, hk⟩ | ⟨t1, u1, rfl, rfl, hk⟩
  · refine fin true hk fun ρ vx vy h1 h2 => ?_
    simp [conc] at h1 h2; subst h1; subst h2
    exact ⟨⟨.inl rfl, .inl rfl⟩, fun w => equal_at fun d => by simp [Op.equalIn, run_underlying hu]⟩
  · refine fin false hk fun ρ vx vy h1 h2 => ?_
    simp only [conc, Option.map_eq_some_iff] at h1; obtain ⟨z, _, rfl⟩ := h1; simp [conc] at h2; subst h2
    exact ⟨⟨.inr ⟨_, _, rfl⟩, .inl rfl⟩, fun w => equal_at fun d => by simp [Op.equalIn, run_underlying hu]⟩
  · refine fin false hk fun ρ vx vy h1 h2 => ?_
    simp only [conc, Option.map_eq_some_iff] at h2; obtain ⟨z, _, rfl⟩ := h2; simp [conc] at h1; subst h1
    exact ⟨⟨.inl rfl, .inr ⟨_, _, rfl⟩⟩, fun w => equal_at fun d => by simp [Op.equalIn, run_underlying hu]⟩

theorem memT_iff (t : TypeId) (ts : List TypeId) : memT t ts = true ↔ t ∈ ts := by
  induction ts with
  | nil => simp [memT]
  | cons x r ih =>
    have h1 : memT t (x :: r) = boolK (Nat.beq x t) true (memT t r) := rfl
    rw [h1, boolK_iff, ih]
    cases e : Nat.beq x t
    · have : x ≠ t := fun e' => by subst e'; simp at e
      simp [Ne.symm this]
    · have : x = t := Nat.eq_of_beq_eq_true e
      simp [this]
theorem p2same : ∀ {p q : P2}, P2.same p q = true → p = q
  | .e, .e, _ => rfl
  | .o p, .o q, h => by rw [p2same (p := p) (q := q) h]
  | .i p, .i q, h => by rw [p2same (p := p) (q := q) h]
  | .e, .o _, h | .e, .i _, h | .o _, .e, h | .i _, .e, h | .o _, .i _, h | .i _, .o _, h => by cases h
theorem p2self : ∀ p : P2, P2.same p p = true
  | .e => rfl
  | .o p => p2self p
  | .i p => p2self p
theorem ownB_iff (s : St) (p : P2) (k : Bool) : ownB s p k = true ↔ (∃ c cs wr t, s.get p = some (.cells (c :: cs) wr 0 t)) ∧ k = true := by
  simp only [ownB, getC_iff, boolK_t]
  constructor
  · rintro ⟨cs, wr, sz, t, h1, h2, h3⟩
    have h2' : sz = 0 := Nat.eq_of_beq_eq_true h2
    subst h2'
    cases cs with
    | nil => cases h3
    | cons c cs => exact ⟨⟨c, cs, wr, t, h1⟩, h3⟩
  · rintro ⟨⟨c, cs, wr, t, h1⟩, h3⟩
    exact ⟨_, _, _, _, h1, rfl, h3⟩
/-- Addresses of two blocks of one's own. -/
theorem run_sameAddr_own {a b : Addr} {ca cb : Array Value} {ta tb : TypeId} {w : World} (hne : a.block ≠ b.block) (ha : w.heap[a.block]? = some (.cells ca ta (0, 0))) (hb : w.heap[b.block]? = some (.cells cb tb (0, 0))) :
    (sameAddr a b).run P w = .ok false w := by
  simp [sameAddr, hne, World.frozen?, ha, hb, noView, viewAt, World.shape?, mayBeOne, stringish]
theorem own_heap {ρ : Rho} {s : St} {w : World} (hm : MemRel ρ s w) {p : P2} {L : Loc} {c : IV} {cs : List IV} {wr : Bool} {t : TypeId} (hp : ρ p = some L) (hs : s.get p = some (.cells (c :: cs) wr 0 t)) :
    ∃ arr, w.heap[L.blk]? = some (.cells arr t (0, 0)) := by
  obtain ⟨arr, fr, h1, _, _, _, _, h6⟩ := hm.blk p L _ hp hs
  rw [h6 rfl] at h1; exact ⟨arr, h1⟩
/-- == of two pointers to memory, at any pointer type whose elements have a size. -/
theorem ptrEq_sound {s : St} {x y : IV} {kt kf : Bool} (h : ptrEq s x y kt kf = true) :
    ∃ r, (r = true ∧ kt = true ∨ r = false ∧ kf = true) ∧ ∀ (ρ : Rho) (w : World) vx vy, MemRel ρ s w → conc ρ x = some vx → conc ρ y = some vy → ∃ a b, vx = .pointer (some a) ∧ vy = .pointer (some b) ∧ (sameAddr a b).run P w = .ok r w := by
  simp only [ptrEq, asPtr_iff] at h
  obtain ⟨p, a, rfl, q, b, rfl, h⟩ := h
  rw [boolK_iff] at h
  rcases h with ⟨h1, h2⟩ | ⟨h1, h2⟩
  · have := p2same h1; subst this
    rw [boolK_iff] at h2
    rcases h2 with ⟨h3, h4⟩ | ⟨h3, h4⟩
    · have := Nat.eq_of_beq_eq_true h3; subst this
      refine ⟨true, .inl ⟨rfl, h4⟩, fun ρ w vx vy hm hx hy => ?_⟩
      obtain ⟨L, hL, rfl⟩ := ptr_inv hx
      obtain ⟨M, hM, rfl⟩ := ptr_inv hy
      rw [hL] at hM; cases hM
      exact ⟨_, _, rfl, rfl, by simp [sameAddr]⟩
    · have hne : a ≠ b := fun e => by subst e; simp at h3
      refine ⟨false, .inr ⟨rfl, h4⟩, fun ρ w vx vy hm hx hy => ?_⟩
      obtain ⟨L, hL, rfl⟩ := ptr_inv hx
      obtain ⟨M, hM, rfl⟩ := ptr_inv hy
      rw [hL] at hM; cases hM
      exact ⟨_, _, rfl, rfl, by simp [sameAddr, hne]⟩
  · have hne : p ≠ q := fun e => by subst e; rw [p2self] at h1; cases h1
    rw [boolK_t, ownB_iff, ownB_iff] at h2
    obtain ⟨hab, ⟨c1, cs1, wr1, t1, g1⟩, ⟨c2, cs2, wr2, t2, g2⟩, hk⟩ := h2
    have := Nat.eq_of_beq_eq_true hab; subst this
    refine ⟨false, .inr ⟨rfl, hk⟩, fun ρ w vx vy hm hx hy => ?_⟩
    obtain ⟨L, hL, rfl⟩ := ptr_inv hx
    obtain ⟨M, hM, rfl⟩ := ptr_inv hy
    obtain ⟨arr1, e1⟩ := own_heap hm hL g1
    obtain ⟨arr2, e2⟩ := own_heap hm hM g2
    refine ⟨_, _, rfl, rfl, ?_⟩
    by_cases e : L.blk = M.blk
    · have hb : L.base ≠ M.base := (hm.inj p q L M hL hM (by simp [g1]) (by simp [g2]) e).elim (fun x => absurd x hne) fun x => x.2.2
      simp [sameAddr, e, hb]
    · exact run_sameAddr_own e e1 e2
theorem snd_eqi (hC : CtxOk P C) {t ty' : TypeId} {i : TI} {x y : Operand} {x' y' : Od} {neg : Bool} (ho : o.op = .binOp (if neg then .neq else .eql) t x y ty') (hi : TIok P t i) (hd : i.d = .iface) (hx : od C x = some x') (hy : od C y = some y')
    (h : oEqi neg C.pts C.its x' y' v s k = true) : ∃ x s', k x s' = true ∧ Snd P C o v s x s' := by
  simp only [oEqi, getK_iff] at h
  obtain ⟨a1, ha1, a2, ha2, h⟩ := h
  obtain ⟨ms, hu⟩ := und_iface hi hd
  have fin : ∀ r, k (.bool (r != neg)) s = true →
      (∀ (ρ : Rho) (w : World) vx vy, MemRel ρ s w → conc ρ a1 = some vx → conc ρ a2 = some vy → ((vx = .nilIface ∧ ∃ t u, vy = .iface t u) ∨ ∃ t u, vx = .iface t u) ∧ (Op.equal t vx vy).run P w = .ok r w) →
      ∃ x s', k x s' = true ∧ Snd P C o v s x s' := by
    intro r hk' hr
    refine ⟨_, s, hk', .pure fun ρ a w hg he hm => ⟨.bool (r != neg), w, ?_, rfl, by simp [conc]⟩⟩
    obtain ⟨f1, f3⟩ := hr ρ w _ _ hm (od_conc hg he hx ha1) (od_conc hg he hy ha2)
    have hg2 : (eqGuard (if neg then .neq else .eql) t x y (a.eval x) (a.eval y)).run P w = .ok () w := by
      rcases f1 with ⟨f1, t2, u2, f2⟩ | ⟨t1, u1, f1⟩
      · rw [f1, f2]; exact guard_plain (by simp) (by simp) w
      · rw [f1]; exact guard_plain (by simp) (by simp) w
    have hb : Go.binOp .eql t (a.eval x) (a.eval y) = (do pure (.bool (← Op.equal t (a.eval x) (a.eval y)))) ∧ Go.binOp .neq t (a.eval x) (a.eval y) = (do pure (.bool (!(← Op.equal t (a.eval x) (a.eval y))))) := by
      rcases f1 with ⟨f1, _⟩ | ⟨t1, u1, f1⟩ <;> rw [f1] <;> exact ⟨rfl, rfl⟩
    simp only [execOp, ho, Sem.run_bind, hg2, Result.andThen_ok]
    cases neg
    · simp [hb.1, f3]
    · simp [hb.2, f3]
  rw [asIfc_iff] at h
  rcases h with ⟨rfl, h⟩ | ⟨t1, u1, rfl, h⟩
  · rw [asIfc_iff] at h
    rcases h with ⟨_, h⟩ | ⟨t2, u2, rfl, h⟩
    · cases h
    · refine fin false (by simpa using h) fun ρ w vx vy hm h1 h2 => ?_
      simp only [conc, Option.map_eq_some_iff] at h2; obtain ⟨z, _, rfl⟩ := h2; simp [conc] at h1; subst h1
      exact ⟨.inl ⟨rfl, _, _, rfl⟩, equal_at fun d => by simp [Op.equalIn, run_underlying hu]⟩
  · rw [asIfc_iff] at h
    rcases h with ⟨rfl, h⟩ | ⟨t2, u2, rfl, h⟩
    · refine fin false (by simpa using h) fun ρ w vx vy hm h1 h2 => ?_
      simp only [conc, Option.map_eq_some_iff] at h1; obtain ⟨z, _, rfl⟩ := h1; simp [conc] at h2; subst h2
      exact ⟨.inr ⟨_, _, rfl⟩, equal_at fun d => by simp [Op.equalIn, run_underlying hu]⟩
    · rw [boolK_iff] at h
      rcases h with ⟨e, h⟩ | ⟨e, h⟩
      · have := Nat.eq_of_beq_eq_true e; subst this
        rw [boolK_iff, memT_iff] at h
        rcases h with ⟨hmem, h⟩ | ⟨_, h⟩
        case inr =>
          simp only [boolK_t, memT_iff, intEq, asInt_iff, kindEq_iff] at h
          obtain ⟨hmem, k1, a, rfl, k2, b, rfl, rfl, h⟩ := h
          obtain ⟨kd, i1, q1, q2, q3⟩ := hC.its t1 hmem
          refine fin (decide (a = b)) ?_ fun ρ w vx vy hm h1 h2 => ?_
          · rw [boolK_iff, ieq_eq] at h
            rcases h with ⟨e, h⟩ | ⟨e, h⟩ <;> rw [e]
            · cases neg <;> simpa [boolK] using h
            · simpa using h
          · simp only [conc, Option.map_some, Option.some.injEq] at h1 h2
            subst h1; subst h2
            refine ⟨.inr ⟨_, _, rfl⟩, equal_at2 fun d => ?_⟩
            simp [Op.equalIn, run_underlying hu, run_underlying q1, typeInfo, q2, q3]
            rfl
        obtain ⟨te, i1, j1, q1, q2, q3, q4, q5⟩ := hC.pts t1 hmem
        obtain ⟨r, hr, hrun⟩ := ptrEq_sound (P := P) h
        refine fin r ?_ fun ρ w vx vy hm h1 h2 => ?_
        · rcases hr with ⟨rfl, hk⟩ | ⟨rfl, hk⟩
          · cases neg <;> simpa [boolK] using hk
          · simpa using hk
        · simp only [conc, Option.map_eq_some_iff] at h1 h2
          obtain ⟨z1, c1, rfl⟩ := h1
          obtain ⟨z2, c2, rfl⟩ := h2
          obtain ⟨a, b, rfl, rfl, hs⟩ := hrun ρ w z1 z2 hm c1 c2
          refine ⟨.inr ⟨_, _, rfl⟩, equal_at2 fun d => ?_⟩
          simp [Op.equalIn, run_underlying hu, run_underlying q1, typeInfo, q2, q3, sizeOf, q4, q5, hs]
      · have hne : t1 ≠ t2 := fun e' => by subst e'; simp at e
        refine fin false (by simpa using h) fun ρ w vx vy hm h1 h2 => ?_
        simp only [conc, Option.map_eq_some_iff] at h1 h2
        obtain ⟨z1, _, rfl⟩ := h1
        obtain ⟨z2, _, rfl⟩ := h2
        exact ⟨.inr ⟨_, _, rfl⟩, equal_at fun d => by simp [Op.equalIn, run_underlying hu, hne]⟩

/-! ### Bounds -/
def Bnd (v : Env) (x : Option Od) (dflt most r : Nat) : Prop := match x with
  | none => r = dflt
  | some y => ∃ t, y.den v = some (.int t r) ∧ r ≤ most
theorem bndK_iff (v : Env) (x : Option Od) (dflt most : Nat) (k : Nat → Bool) : bndK v x dflt most k = true ↔ ∃ r, Bnd v x dflt most r ∧ k r = true := by
  cases x with
  | none => exact ⟨fun h => ⟨dflt, rfl, h⟩, fun ⟨r, hr, h⟩ => by cases hr; exact h⟩
  | some y =>
    have h1 : bndK v (some y) dflt most k = getK v y (fun y => asInt y (fun _ n => Int.rec (motive := fun _ => Bool) (fun m => boolK (Nat.ble m most) (k m) false) (fun _ => false) n)) := rfl
    rw [h1]
    simp only [getK_iff, asInt_iff, Bnd]
    constructor
    · rintro ⟨z, hz, t, n, rfl, h⟩
      cases n with
      | negSucc m => simp at h
      | ofNat m =>
        have h' : boolK (Nat.ble m most) (k m) false = true := h
        rw [boolK_t, ble_iff] at h'
        exact ⟨m, ⟨t, hz, h'.1⟩, h'.2⟩
    · rintro ⟨r, ⟨t, hz, hle⟩, h⟩
      refine ⟨_, hz, t, _, rfl, ?_⟩
      show boolK (Nat.ble r most) (k r) false = true
      rw [boolK_t, ble_iff]; exact ⟨hle, h⟩
theorem odo_inv {C : Ctx} {x : Option Operand} {y : Option Od} (h : odo C x = some y) : (x = none ∧ y = none) ∨ ∃ a b, x = some a ∧ y = some b ∧ od C a = some b := by
  cases x with
  | none => simp [odo] at h; exact .inl ⟨rfl, h.symm⟩
  | some a =>
    simp only [odo] at h
    cases hb : od C a with
    | none => simp [hb] at h
    | some b => simp [hb] at h; exact .inr ⟨a, b, rfl, h.symm, hb⟩
theorem run_bound {t : IntKind} {n most : Nat} (h : n ≤ most) (code : BoundsCode) (w : World) : (Instr.sliceBound (.int t n) most code).run P w = .ok n w := by
  simp [Instr.sliceBound, asIntOf, h]
theorem run_sb {ρ : Rho} {a : Act} (hg : Glob C ρ) (he : EnvRel ρ v a.tmps) {lo hi : Option Operand} {lo' hi' : Option Od} (hlo : odo C lo = some lo') (hhi : odo C hi = some hi') {isS : Bool} {len cap most h b : Nat} (hm : most ≤ cap)
    (h1 : Bnd v hi' len most h) (h2 : Bnd v lo' 0 h b) (w : World) : (Instr.sliceBounds isS len cap (lo.map a.eval) (hi.map a.eval) none).run P w = .ok (b, h, cap) w := by
  rcases odo_inv hhi with ⟨rfl, rfl⟩ | ⟨x, y, rfl, rfl, hy⟩ <;> rcases odo_inv hlo with ⟨rfl, rfl⟩ | ⟨x2, y2, rfl, rfl, hy2⟩
  · simp [Bnd] at h1 h2; subst h1; subst h2
    simp [Instr.sliceBounds]
  · simp [Bnd] at h1; subst h1
    obtain ⟨t, ht, hle⟩ := h2
    simp [Instr.sliceBounds, int_inv (od_conc hg he hy2 ht), run_bound hle]
  · simp [Bnd] at h2; subst h2
    obtain ⟨t, ht, hle⟩ := h1
    simp [Instr.sliceBounds, int_inv (od_conc hg he hy ht), run_bound (Nat.le_trans hle hm)]
  · obtain ⟨t, ht, hle⟩ := h1
    obtain ⟨t2, ht2, hle2⟩ := h2
    simp [Instr.sliceBounds, int_inv (od_conc hg he hy ht), run_bound (Nat.le_trans hle hm), int_inv (od_conc hg he hy2 ht2), run_bound hle2]
theorem run_sb3 {ρ : Rho} {a : Act} (hg : Glob C ρ) (he : EnvRel ρ v a.tmps) {lo : Option Operand} {hi mx : Operand} {lo' : Option Od} {hi' mx' : Od} (hlo : odo C lo = some lo') (hhi : od C hi = some hi') (hmx : od C mx = some mx') {len cap most m h b : Nat} (hm : most ≤ cap)
    (h0 : Bnd v (some mx') 0 most m) (h1 : Bnd v (some hi') 0 m h) (h2 : Bnd v lo' 0 h b) (w : World) : (Instr.sliceBounds true len cap (lo.map a.eval) (some (a.eval hi)) (some (a.eval mx))).run P w = .ok (b, h, m) w := by
  obtain ⟨t0, ht0, hle0⟩ := h0
  obtain ⟨t1, ht1, hle1⟩ := h1
  rcases odo_inv hlo with ⟨rfl, rfl⟩ | ⟨x2, y2, rfl, rfl, hy2⟩
  · simp [Bnd] at h2; subst h2
    simp [Instr.sliceBounds, int_inv (od_conc hg he hmx ht0), int_inv (od_conc hg he hhi ht1), run_bound (Nat.le_trans hle0 hm), run_bound hle1]
  · obtain ⟨t2, ht2, hle2⟩ := h2
    simp [Instr.sliceBounds, int_inv (od_conc hg he hmx ht0), int_inv (od_conc hg he hhi ht1), run_bound (Nat.le_trans hle0 hm), run_bound hle1, int_inv (od_conc hg he hy2 ht2), run_bound hle2]

theorem snd_slStr {t : TypeId} {i : TI} {x : Operand} {x' : Od} {lo hi : Option Operand} {lo' hi' : Option Od} (ho : o.op = .slice t x lo hi none) (hti : TIok P t i) (hd : i.d = .str) (hx : od C x = some x') (hlo : odo C lo = some lo') (hhi : odo C hi = some hi')
    (h : oSlStr x' lo' hi' v s k = true) : ∃ x s', k x s' = true ∧ Snd P C o v s x s' := by
  simp only [oSlStr, getK_iff, asStr_iff, bndK_iff, retS, natK_eq] at h
  obtain ⟨z, hz, l, n, rfl, h1, hb1, b, hb2, h⟩ := h
  refine ⟨_, s, h, .pure fun ρ a w hg he hm => ⟨.string ((strB l n).extract b h1), w, ?_, rfl, ?_⟩⟩
  · simp [execOp, ho, Instr.sliceAt, Instr.slice, run_underlying (und_str hti hd), str_inv (od_conc hg he hx hz), run_sb hg he hlo hhi (Nat.le_refl l) hb1 hb2]
  · have hbh : b ≤ h1 := by
      cases lo' with
      | none => simp [Bnd] at hb2; omega
      | some y => exact hb2.choose_spec.2
    have hhl : h1 ≤ l := by
      cases hi' with
      | none => simp [Bnd] at hb1; omega
      | some y => exact hb1.choose_spec.2
    simp only [conc]; rw [strB_extract l n b h1 hbh hhl]; rfl
end
end Go.Ev
