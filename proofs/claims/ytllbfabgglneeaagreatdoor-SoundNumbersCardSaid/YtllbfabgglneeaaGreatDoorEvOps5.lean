/- DERIVED. The ideal machine's operations against the model's: equality, lengths, bounds, slicing. -/
import Derived.Test.YtllbfabgglneeaaGreatDoorEvOps4
set_option linter.unusedVariables false
namespace Go.Ev
section
variable {P : Program} {C : Ctx} {o : Oper} {v : Env} {s : St} {k : KO}

/-! ### Equality -/
theorem bool_inv {ρ : Rho} {b : Bool} {u : Value} (h : conc ρ (.bool b) = some u) : u = .bool b := by simpa [conc] using h.symm
theorem eq_bool {x y : IV} {k : Bool → Bool} (h : eqTop .bool x y k = true) : ∃ a b, x = .bool a ∧ y = .bool b ∧ k (a == b) = true := by
  have h' : asBool x (fun a => asBool y (fun b => boolK a (k b) (boolK b (k false) (k true)))) = true := h
  simp only [asBool_iff] at h'
  obtain ⟨a, rfl, b, rfl, h2⟩ := h'
  refine ⟨a, b, rfl, rfl, ?_⟩
  cases a <;> cases b <;> simpa [boolK] using h2
theorem eq_int {x y : IV} {k : Bool → Bool} (h : eqTop .int x y k = true) : ∃ t a b, x = .int t a ∧ y = .int t b ∧ k (a == b) = true := by
  have h' : asInt x (fun t a => asInt y (fun u b => boolK (kindEq t u) (boolK (ieq a b) (k true) (k false)) false)) = true := h
  simp only [asInt_iff, boolK_t, kindEq_iff] at h'
  obtain ⟨t, a, rfl, u, b, rfl, rfl, h3⟩ := h'
  refine ⟨t, a, b, rfl, rfl, ?_⟩
  rw [boolK_iff, ieq_eq] at h3
  rcases h3 with ⟨h1, h2⟩ | ⟨h1, h2⟩ <;> simp at h1
  · subst h1; simpa using h2
  · rw [beq_eq_false_iff_ne.2 h1]; exact h2
theorem eq_str {x y : IV} {k : Bool → Bool} (h : eqTop .str x y k = true) : ∃ l n l' n', x = .str l n ∧ y = .str l' n' ∧ k ((strB l n).toList == (strB l' n').toList) = true := by
  have h' : asStr x (fun l n => asStr y (fun l' n' => boolK (seqB l n l' n') (k true) (k false))) = true := h
  simp only [asStr_iff] at h'
  obtain ⟨l, n, rfl, l', n', rfl, h3⟩ := h'
  refine ⟨l, n, l', n', rfl, rfl, ?_⟩
  rw [list_beq, ← seqB_eq]
  rcases (boolK_iff _ _ _).1 h3 with ⟨h1, h2⟩ | ⟨h1, h2⟩ <;> rw [h1] <;> exact h2
theorem eq_ptr {x y : IV} {k : Bool → Bool} (h : eqTop .ptr x y k = true) : (x = .nilp ∧ y = .nilp ∧ k true = true) ∨ (∃ p off, x = .ptr p off ∧ y = .nilp ∧ k false = true) ∨ (∃ p off, x = .nilp ∧ y = .ptr p off ∧ k false = true) := by
  cases x with
  | ptr p off => cases y <;> simp [eqTop] at h; exact .inr (.inl ⟨p, off, rfl, rfl, h⟩)
  | nilp => cases y <;> simp [eqTop] at h
            · rename_i p off; exact .inr (.inr ⟨p, off, rfl, rfl, h⟩)
            · exact .inl ⟨rfl, rfl, h⟩
  | _ => simp [eqTop] at h
theorem eq_slice {x y : IV} {k : Bool → Bool} (h : eqTop .slice x y k = true) : (x = .nilsl ∧ y = .nilsl ∧ k true = true) ∨ (∃ p a b c, x = .sl p a b c ∧ y = .nilsl ∧ k false = true) ∨ (∃ p a b c, x = .nilsl ∧ y = .sl p a b c ∧ k false = true) := by
  have h' : asSl x (asSl y (k true) (fun _ _ _ _ => k false)) (fun _ _ _ _ => asSl y (k false) (fun _ _ _ _ => false)) = true := h
  simp only [asSl_iff] at h'
  rcases h' with ⟨rfl, ⟨rfl, h⟩ | ⟨p, a, b, c, rfl, h⟩⟩ | ⟨p, a, b, c, rfl, ⟨rfl, h⟩ | ⟨_, _, _, _, _, h⟩⟩
  · exact .inl ⟨rfl, rfl, h⟩
  · exact .inr (.inr ⟨p, a, b, c, rfl, rfl, h⟩)
  · exact .inr (.inl ⟨p, a, b, c, rfl, rfl, h⟩)
  · cases h
theorem eq_map {x y : IV} {k : Bool → Bool} (h : eqTop .map x y k = true) : (x = .nilmap ∧ y = .nilmap ∧ k true = true) ∨ (∃ p, x = .map p ∧ y = .nilmap ∧ k false = true) ∨ (∃ p, x = .nilmap ∧ y = .map p ∧ k false = true) := by
  have h' : asMap x (asMap y (k true) (fun _ => k false)) (fun _ => asMap y (k false) (fun _ => false)) = true := h
  simp only [asMap_iff] at h'
  rcases h' with ⟨rfl, ⟨rfl, h⟩ | ⟨p, rfl, h⟩⟩ | ⟨p, rfl, ⟨rfl, h⟩ | ⟨_, _, h⟩⟩
  · exact .inl ⟨rfl, rfl, h⟩
  · exact .inr (.inr ⟨p, rfl, rfl, h⟩)
  · exact .inr (.inl ⟨p, rfl, rfl, h⟩)
  · cases h
theorem eq_ifc {x y : IV} {k : Bool → Bool} (h : eqTop .ifc x y k = true) : (x = .nili ∧ y = .nili ∧ k true = true) ∨ (∃ t u, x = .iface t u ∧ y = .nili ∧ k false = true) ∨ (∃ t u, x = .nili ∧ y = .iface t u ∧ k false = true) := by
  have h' : asIfc x (asIfc y (k true) (fun _ _ => k false)) (fun _ _ => asIfc y (k false) (fun _ _ => false)) = true := h
  simp only [asIfc_iff] at h'
  rcases h' with ⟨rfl, ⟨rfl, h⟩ | ⟨p, a, rfl, h⟩⟩ | ⟨p, a, rfl, ⟨rfl, h⟩ | ⟨_, _, _, h⟩⟩
  · exact .inl ⟨rfl, rfl, h⟩
  · exact .inr (.inr ⟨p, a, rfl, rfl, h⟩)
  · exact .inr (.inl ⟨p, a, rfl, rfl, h⟩)
  · cases h
theorem und_ptr {t e : TypeId} {i : TI} (hi : TIok P t i) (hd : i.d = .ptr e) : P.underlying t = some (.pointer e) := by
  obtain ⟨d, h1, hok⟩ := hi.und
  rw [hd] at hok; cases d <;> simp [D.ok] at hok
  rw [h1, hok]
theorem und_bool {t : TypeId} {i : TI} (hi : TIok P t i) (hd : i.d = .bool) : P.underlying t = some .bool := by
  obtain ⟨d, h1, hok⟩ := hi.und
  rw [hd] at hok; cases d <;> simp [D.ok] at hok
  rw [h1]
theorem und_iface {t : TypeId} {i : TI} (hi : TIok P t i) (hd : i.d = .iface) : ∃ ms, P.underlying t = some (.interface ms) := by
  obtain ⟨d, h1, hok⟩ := hi.und
  rw [hd] at hok; cases d <;> simp [D.ok] at hok
  exact ⟨_, h1⟩
def EqDen (P : Program) (t : TypeId) (x y : IV) (r : Bool) : Prop := ∀ (ρ : Rho) vx vy, conc ρ x = some vx → conc ρ y = some vy → ∀ (w : World) (d : Nat), (Op.equalIn (d + 2) t vx vy).run P w = .ok r w
theorem eqF_sound (hC : ∀ t i, C.ty t = some i → TIok P t i) : ∀ {gs : List Field} {l : List (Nat × EQ)}, eqFs C (gs.map fun f => (f.offset, f.type)) = some l → (∀ f ∈ gs, f.name ≠ "_") →
    ∀ {a b : List IV} {k : Bool → Bool}, eqTop (.struct l) (.agg a) (.agg b) k = true → ∃ r, k r = true ∧ ∀ (ρ : Rho) xs ys, concs ρ a = some xs → concs ρ b = some ys → ∀ (w : World) (d : Nat), (Op.eqFields (d + 1) xs.toArray ys.toArray gs).run P w = .ok r w
  | [], l, h, _, a, b, k, hk => by
    simp [eqFs] at h; subst h
    exact ⟨true, hk, fun ρ xs ys _ _ w d => by simp [Op.eqFields]⟩
  | f :: r, l, h, hn, a, b, k, hk => by
    simp only [List.map_cons, eqFs] at h
    cases hj : C.ty f.type with
    | none => simp [hj] at h
    | some j => cases hl : eqFs C (r.map fun f => (f.offset, f.type)) with
      | none => simp [hj, hl] at h
      | some l' =>
        simp only [hj, hl] at h
        have hti := hC _ _ hj
        have hname := hn f (by simp)
        have step : ∀ (q : EQ), l = (f.offset, q) :: l' → j.d.agg = false → (∀ x y k, eqTop q x y k = true → ∃ r, k r = true ∧ ∀ (ρ : Rho) vx vy, conc ρ x = some vx → conc ρ y = some vy → ∀ (w : World) (d : Nat), (Op.equalIn (d + 1) f.type vx vy).run P w = .ok r w) →
            ∃ r', k r' = true ∧ ∀ (ρ : Rho) xs ys, concs ρ a = some xs → concs ρ b = some ys → ∀ (w : World) (d : Nat), (Op.eqFields (d + 1) xs.toArray ys.toArray (f :: r)).run P w = .ok r' w := by
          intro q hlq ha hq
          subst hlq
          have hk' : nthK a f.offset (fun x => nthK b f.offset (fun y => eqTop q x y (fun r => boolK r (eqTop (.struct l') (.agg a) (.agg b) k) (k false)))) = true := hk
          simp only [nthK_iff] at hk'
          obtain ⟨x, hx, y, hy, hk'⟩ := hk'
          obtain ⟨r1, hr1, hrun⟩ := hq x y _ hk'
          have parts : ∀ (ρ : Rho) xs ys, concs ρ a = some xs → concs ρ b = some ys → ∃ vx vy, conc ρ x = some vx ∧ conc ρ y = some vy ∧ ∀ w, (part f.type xs.toArray f.offset).run P w = .ok vx w ∧ (part f.type ys.toArray f.offset).run P w = .ok vy w := fun ρ xs ys h1 h2 => by
            obtain ⟨vx, g1, g2⟩ := ((concs_iff _ _ _).1 h1).2 _ x hx
            obtain ⟨vy, g3, g4⟩ := ((concs_iff _ _ _).1 h2).2 _ y hy
            exact ⟨vx, vy, g2, g4, fun w => ⟨run_part1 hti ha g1 w, run_part1 hti ha g3 w⟩⟩
          rcases (boolK_iff _ _ _).1 hr1 with ⟨rfl, h2⟩ | ⟨rfl, h2⟩
          · obtain ⟨r2, hr2, hrun2⟩ := eqF_sound hC hl (fun g hg => hn g (by simp [hg])) h2
            refine ⟨r2, hr2, fun ρ xs ys h1 h2 w d => ?_⟩
            obtain ⟨vx, vy, g1, g2, g3⟩ := parts ρ xs ys h1 h2
            simp [Op.eqFields, hname, (g3 w).1, (g3 w).2, hrun ρ vx vy g1 g2 w d, hrun2 ρ xs ys h1 h2 w d]
          · refine ⟨false, h2, fun ρ xs ys h1 h2 w d => ?_⟩
            obtain ⟨vx, vy, g1, g2, g3⟩ := parts ρ xs ys h1 h2
            simp [Op.eqFields, hname, (g3 w).1, (g3 w).2, hrun ρ vx vy g1 g2 w d]
        cases hd : j.d <;> simp [hd] at h
        case bool =>
          refine step .bool h.symm (by simp [hd, D.agg]) fun x y k hk => ?_
          obtain ⟨p, q, rfl, rfl, hk2⟩ := eq_bool hk
          exact ⟨_, hk2, fun ρ vx vy h1 h2 w d => by rw [bool_inv h1, bool_inv h2]; exact run_equalIn_bool' w d _ _ _ (und_bool hti hd)⟩
        case int =>
          refine step .int h.symm (by simp [hd, D.agg]) fun x y k hk => ?_
          obtain ⟨t, p, q, rfl, rfl, hk2⟩ := eq_int hk
          exact ⟨_, hk2, fun ρ vx vy h1 h2 w d => by rw [int_inv h1, int_inv h2]; exact run_equalIn_int w d _ _ _ _ _ (und_int hti hd)⟩
        case str =>
          refine step .str h.symm (by simp [hd, D.agg]) fun x y k hk => ?_
          obtain ⟨l1, n1, l2, n2, rfl, rfl, hk2⟩ := eq_str hk
          exact ⟨_, hk2, fun ρ vx vy h1 h2 w d => by rw [str_inv h1, str_inv h2]; exact run_equalIn_string w d _ _ _ (und_str hti hd)⟩

theorem conc_sl_inv {ρ : Rho} {p : P2} {a b : Nat} {c : ICap} {u : Value} (h : conc ρ (.sl p a b c) = some u) : ∃ ad n m, u = .slice (some ad) n m := by
  obtain ⟨L, _, e⟩ := slice_inv h; exact ⟨_, _, _, e⟩
theorem guard_plain {op : BinOp} {ty : TypeId} {x y : Operand} {a b : Value} (h1 : ¬ (a = .nilIface ∧ b = .nilIface)) (h2 : ∀ xs ys, ¬ (a = .agg xs ∧ b = .agg ys)) (w : World) : (eqGuard op ty x y a b).run P w = .ok () w := by
  cases op <;> try rfl
  all_goals
    cases a <;> first
      | rfl
      | (cases b <;> first | rfl | exact absurd ⟨rfl, rfl⟩ h1 | exact absurd ⟨rfl, rfl⟩ (h2 _ _))
/-- == at nil. -/
theorem equal_at {t : TypeId} {x y : Value} {r : Bool} {w : World} (h : ∀ d, (Op.equalIn (d + 1) t x y).run P w = .ok r w) : (Op.equal t x y).run P w = .ok r w := h 9999
theorem equal_at2 {t : TypeId} {x y : Value} {r : Bool} {w : World} (h : ∀ d, (Op.equalIn (d + 2) t x y).run P w = .ok r w) : (Op.equal t x y).run P w = .ok r w := h 9998
/-- What == comes to at a type: its guard is met, and it tells. -/
theorem eq_sound (hC : CtxOk P C) {t : TypeId} {i : TI} {q : EQ} (hi : C.ty t = some i) (hq : eqOf C t = some q) {x y : IV} {k : Bool → Bool} (h : eqTop q x y k = true) :
    ∃ r, k r = true ∧ ∀ (ρ : Rho) vx vy, conc ρ x = some vx → conc ρ y = some vy → ∀ (w : World) (op : BinOp) (a b : Operand), (eqGuard op t a b vx vy).run P w = .ok () w ∧ (Op.equal t vx vy).run P w = .ok r w ∧ (∀ n m, vx ≠ .int n m) ∧ (∀ s, vx ≠ .string s) ∧ (∀ n m, vx ≠ .float n m) ∧ (∀ n m l, vx ≠ .complex n m l) := by
  have hti := hC.ty t i hi
  simp only [eqOf, hi] at hq
  cases hd : i.d <;> simp [hd] at hq
  case bool =>
    subst hq
    obtain ⟨a, b, rfl, rfl, hk⟩ := eq_bool h
    refine ⟨_, hk, fun ρ vx vy h1 h2 w op p q => ?_⟩
    rw [bool_inv h1, bool_inv h2]
    exact ⟨guard_plain (by simp) (by simp) w, equal_at fun d => run_equalIn_bool' w d _ _ _ (und_bool hti hd), by simp, by simp, by simp, by simp⟩
  case ptr e =>
    subst hq
    have hu := und_ptr hti hd
    rcases eq_ptr h with ⟨rfl, rfl, hk⟩ | ⟨p, off, rfl, rfl, hk⟩ | ⟨p, off, rfl, rfl, hk⟩ <;> refine ⟨_, hk, fun ρ vx vy h1 h2 w op a b => ?_⟩
    · simp [conc] at h1 h2; subst h1; subst h2
      exact ⟨guard_plain (by simp) (by simp) w, equal_at fun d => by simp [Op.equalIn, run_underlying hu], by simp, by simp, by simp, by simp⟩
    · obtain ⟨L, _, rfl⟩ := ptr_inv h1; simp [conc] at h2; subst h2
      exact ⟨guard_plain (by simp) (by simp) w, equal_at fun d => by simp [Op.equalIn, run_underlying hu], by simp, by simp, by simp, by simp⟩
    · obtain ⟨L, _, rfl⟩ := ptr_inv h2; simp [conc] at h1; subst h1
      exact ⟨guard_plain (by simp) (by simp) w, equal_at fun d => by simp [Op.equalIn, run_underlying hu], by simp, by simp, by simp, by simp⟩
  case slice e =>
    subst hq
    have hu := und_slice hti hd
    rcases eq_slice h with ⟨rfl, rfl, hk⟩ | ⟨p, _, _, _, rfl, rfl, hk⟩ | ⟨p, _, _, _, rfl, rfl, hk⟩ <;> refine ⟨_, hk, fun ρ vx vy h1 h2 w op a b => ?_⟩
    · simp [conc] at h1 h2; subst h1; subst h2
      exact ⟨guard_plain (by simp) (by simp) w, equal_at fun d => by simp [Op.equalIn, run_underlying hu], by simp, by simp, by simp, by simp⟩
    · obtain ⟨ad, n, m, rfl⟩ := conc_sl_inv h1; simp [conc] at h2; subst h2
      exact ⟨guard_plain (by simp) (by simp) w, equal_at fun d => by simp [Op.equalIn, run_underlying hu], by simp, by simp, by simp, by simp⟩
    · obtain ⟨ad, n, m, rfl⟩ := conc_sl_inv h2; simp [conc] at h1; subst h1
      exact ⟨guard_plain (by simp) (by simp) w, equal_at fun d => by simp [Op.equalIn, run_underlying hu], by simp, by simp, by simp, by simp⟩
  case map a b =>
    subst hq
    have hu := und_map hti hd
    rcases eq_map h with ⟨rfl, rfl, hk⟩ | ⟨p, rfl, rfl, hk⟩ | ⟨p, rfl, rfl, hk⟩ <;> refine ⟨_, hk, fun ρ vx vy h1 h2 w op a b => ?_⟩
    · simp [conc] at h1 h2; subst h1; subst h2
      exact ⟨guard_plain (by simp) (by simp) w, equal_at fun d => by simp [Op.equalIn, run_underlying hu], by simp, by simp, by simp, by simp⟩
    · simp only [conc, Option.map_eq_some_iff] at h1; obtain ⟨L, _, rfl⟩ := h1; simp [conc] at h2; subst h2
      exact ⟨guard_plain (by simp) (by simp) w, equal_at fun d => by simp [Op.equalIn, run_underlying hu], by simp, by simp, by simp, by simp⟩
    · simp only [conc, Option.map_eq_some_iff] at h2; obtain ⟨L, _, rfl⟩ := h2; simp [conc] at h1; subst h1
      exact ⟨guard_plain (by simp) (by simp) w, equal_at fun d => by simp [Op.equalIn, run_underlying hu], by simp, by simp, by simp, by simp⟩
  case struct fs =>
    obtain ⟨hqs, hq⟩ := hq
    cases hl : eqFs C fs with
    | none => simp [hl] at hq
    | some l =>
      simp [hl] at hq; subst hq
      obtain ⟨hst, hgd, hnm⟩ := hC.eqs t hqs
      obtain ⟨d, hd1, hok⟩ := hti.und
      rw [hd] at hok
      cases d <;> simp [D.ok] at hok
      rename_i gs
      have hfo : P.fieldsOf t = gs := by simp [Program.fieldsOf, hd1]
      have h' : ∃ a b, x = .agg a ∧ y = .agg b := by
        cases x <;> first
          | (simp [eqTop, asAgg] at h; done)
          | (cases y <;> first | exact ⟨_, _, rfl, rfl⟩ | (simp [eqTop, asAgg] at h; done))
      obtain ⟨a, b, rfl, rfl⟩ := h'
      rw [hfo] at hnm
      obtain ⟨r, hk, hrun⟩ := eqF_sound hC.ty (gs := gs.toList) (l := l) (by rw [hok]; exact hl) hnm h
      refine ⟨r, hk, fun ρ vx vy h1 h2 w op p q => ?_⟩
      obtain ⟨xs, hx, rfl⟩ := agg_inv h1
      obtain ⟨ys, hy, rfl⟩ := agg_inv h2
      refine ⟨run_eqGuard_agg w op t p q _ _ hgd, ?_, by simp, by simp, by simp, by simp⟩
      refine equal_at2 fun d => ?_
      rw [run_equalIn_struct w (d + 1) t _ _ (by rw [hfo]; exact hd1) hst, hfo]
      exact hrun ρ xs ys hx hy w d
theorem snd_eq (hC : CtxOk P C) {t ty' : TypeId} {i : TI} {q : EQ} {x y : Operand} {x' y' : Od} {neg : Bool} (ho : o.op = .binOp (if neg then .neq else .eql) t x y ty') (hi : C.ty t = some i) (hq : eqOf C t = some q) (hx : od C x = some x') (hy : od C y = some y')
    (h : oEq neg q x' y' v s k = true) : ∃ x s', k x s' = true ∧ Snd P C o v s x s' := by
  simp only [oEq, getK_iff] at h
  obtain ⟨a1, ha1, a2, ha2, h⟩ := h
  obtain ⟨r, hk, hr⟩ := eq_sound hC hi hq h
  have hk' : k (.bool (r != neg)) s = true := by
    cases neg <;> cases r <;> simpa [boolK] using hk
  refine ⟨_, s, hk', .pure fun ρ a w hg he hm => ⟨.bool (r != neg), w, ?_, rfl, by simp [conc]⟩⟩
  rcases hr ρ _ _ (od_conc hg he hx ha1) (od_conc hg he hy ha2) w (if neg then .neq else .eql) x y with ⟨h1, h2, h3, h4, h5, h6⟩
  · simp only [execOp, ho, Sem.run_bind, h1, Result.andThen_ok]
    cases neg
    · have : Go.binOp .eql t (a.eval x) (a.eval y) = (do pure (.bool (← Op.equal t (a.eval x) (a.eval y)))) := by
        generalize a.eval x = vx at *
        cases vx <;> first | rfl | exact absurd rfl (h3 _ _) | exact absurd rfl (h4 _) | exact absurd rfl (h5 _ _) | exact absurd rfl (h6 _ _ _)
      simp [this, h2]
    · have : Go.binOp .neq t (a.eval x) (a.eval y) = (do pure (.bool (!(← Op.equal t (a.eval x) (a.eval y))))) := by
        generalize a.eval x = vx at *
        cases vx <;> first | rfl | exact absurd rfl (h3 _ _) | exact absurd rfl (h4 _) | exact absurd rfl (h5 _ _) | exact absurd rfl (h6 _ _ _)
      simp [this, h2]
end
end Go.Ev
