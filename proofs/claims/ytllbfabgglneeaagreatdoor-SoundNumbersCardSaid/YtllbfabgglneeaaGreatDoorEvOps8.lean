/- DERIVED. The ideal machine's operations against the model's: rows of arrays, lengths, assertions, bytes. -/
import Derived.Test.YtllbfabgglneeaaGreatDoorEvOps7
set_option linter.unusedVariables false
namespace Go.Ev
section
variable {P : Program} {C : Ctx} {o : Oper} {v : Env} {s : St} {k : KO}

theorem snd_slArr {t e : TypeId} {n : Nat} {i ie : TI} {x : Operand} {x' : Od} {lo hi : Option Operand} {lo' hi' : Option Od} (ho : o.op = .slice t x lo hi none) (hti : TIok P t i) (hd : i.d = .array n e) (hie : TIok P e ie) (hx : od C x = some x') (hlo : odo C lo = some lo') (hhi : odo C hi = some hi')
    (h : oSlArr n ie.size x' lo' hi' v s k = true) : ∃ x s', k x s' = true ∧ Snd P C o v s x s' := by
  simp only [oSlArr, getK_iff, asPtr_iff, bndK_iff] at h
  obtain ⟨z, hz, p, off, rfl, h1, hb1, b, hb2, h⟩ := h
  have hbh := hb2.le (Nat.zero_le h1)
  have hhn := hb1.le (Nat.le_refl n)
  obtain ⟨r, hk, hr⟩ := slIs_inv h hbh hhn
  refine ⟨r, s, hk, .pure fun ρ a w hg he hm => ?_⟩
  obtain ⟨L, hL, e1⟩ := ptr_inv (od_conc hg he hx hz)
  refine ⟨_, w, ?_, rfl, hr ρ L hL⟩
  simp [execOp, ho, Instr.sliceAt, Instr.sureAddr, run_underlying (und_array hti hd), e1, run_sb hg he hlo hhi (Nat.le_refl n) hb1 hb2, run_size hie]

theorem snd_mkmap {t : TypeId} (ho : o.op = .makeMap t none) (h : oMkmap v s k = true) : ∃ x s', k x s' = true ∧ Snd P C o v s x s' := by
  simp only [oMkmap, newB_eq] at h
  refine ⟨_, _, h, by rw [St.nx_add]; omega, fun ρ a w hg he hm hn => ?_⟩
  refine .value (x := .map (some w.heap.size)) (w' := { w with heap := w.heap.push (.map #[] 0) }) (by simp [execOp, ho, Instr.makeMap]) ⟨_, by simp [conc], Step.add 0 hm hn.nxt rfl ⟨#[], 0, rfl, rfl, by simp⟩⟩

/-! ### Lengths -/
theorem run_getObj {w : World} {g : Nat} {b : Obj} (h : w.heap[g]? = some b) (hc : ∀ a t f, b ≠ .cells a t f) : (getObj g).run P w = .ok b w := by
  cases b <;> first | (simp [getObj, Sem.run, h]; done) | exact absurd rfl (hc _ _ _)
theorem run_setObj {w : World} {g : Nat} {b : Obj} (o : Obj) (h : w.heap[g]? = some b) (hc : ∀ a t f, b ≠ .cells a t f) : (setObj g o).run P w = .ok () { w with heap := w.heap.setIfInBounds g o } := by
  cases b <;> first | (simp [setObj, Sem.run, h]; done) | exact absurd rfl (hc _ _ _)
theorem args1 {l : Array Operand} {x' : Od} (h : ods C l.toList = some [x']) : ∃ x, l = #[x] ∧ od C x = some x' := by
  obtain ⟨l⟩ := l
  cases l with
  | nil => simp [ods] at h
  | cons a r =>
    simp only [ods] at h
    cases h1 : od C a with
    | none => simp [h1] at h
    | some p => cases r with
      | nil => simp [ods, h1] at h; exact ⟨a, rfl, by rw [h1, h]⟩
      | cons b q =>
        cases h2 : ods C (b :: q) with
        | none => simp [h1, h2] at h
        | some z =>
          simp [h1, h2] at h
          simp only [ods] at h2
          cases h3 : od C b <;> cases h4 : ods C q <;> simp [h3, h4] at h2
          rw [← h2] at h; cases h.2
theorem args2 {l : Array Operand} {x' y' : Od} (h : ods C l.toList = some [x', y']) : ∃ x y, l = #[x, y] ∧ od C x = some x' ∧ od C y = some y' := by
  obtain ⟨l⟩ := l
  cases l with
  | nil => simp [ods] at h
  | cons a r =>
    simp only [ods] at h
    cases h1 : od C a with
    | none => simp [h1] at h
    | some p =>
      cases h2 : ods C r with
      | none => simp [h1, h2] at h
      | some z =>
        simp [h1, h2] at h
        obtain ⟨rfl, rfl⟩ := h
        obtain ⟨y, hy, h3⟩ := args1 (l := r.toArray) (by simpa using h2)
        have : r = [y] := by simpa using congrArg Array.toList hy
        subst this
        exact ⟨a, y, rfl, h1, h3⟩
theorem snd_lenA {c : Call} {t e : TypeId} {n : Nat} {i : TI} {x' : Od} (ho : o.op = .call c) (hc : c.callee = .builtin .len) (ht : c.argTypes[0]? = some t) (hti : TIok P t i) (hd : i.d = .array n e)
    (hx : ods C c.args.toList = some [x']) (h : oMv (.c (.int .i64 n)) v s k = true) : ∃ x s', k x s' = true ∧ Snd P C o v s x s' := by
  obtain ⟨x, hl, hx⟩ := args1 hx
  refine ⟨.int .i64 n, s, h, .pure fun ρ a w hg he hm => ⟨.int .i64 n, w, ?_, rfl, by simp [conc]⟩⟩
  simp [execOp, ho, resolve, hc, hl, invoke, builtin, Builtin.len_, ht, run_underlying (und_array hti hd), goInt]
theorem snd_lenS {c : Call} {t : TypeId} {i : TI} {x' : Od} (ho : o.op = .call c) (hc : c.callee = .builtin .len) (ht : c.argTypes[0]? = some t) (hti : TIok P t i) (hd : i.d = .str)
    (hx : ods C c.args.toList = some [x']) (h : oLenS x' v s k = true) : ∃ x s', k x s' = true ∧ Snd P C o v s x s' := by
  obtain ⟨x, hl, hx⟩ := args1 hx
  simp only [oLenS, getK_iff, asStr_iff, retN, natK_eq] at h
  obtain ⟨y, hy, l, n, rfl, hk⟩ := h
  refine ⟨_, s, hk, .pure fun ρ a w hg he hm => ⟨.int .i64 l, w, ?_, rfl, by simp [conc]⟩⟩
  have e := str_inv (od_conc hg he hx hy)
  simp [execOp, ho, resolve, hc, hl, invoke, builtin, Builtin.len_, ht, run_underlying (und_str hti hd), e, goInt, strB_size]
theorem snd_lenL {c : Call} {t e : TypeId} {i : TI} {x' : Od} (ho : o.op = .call c) (hc : c.callee = .builtin .len) (ht : c.argTypes[0]? = some t) (hti : TIok P t i) (hd : i.d = .slice e)
    (hx : ods C c.args.toList = some [x']) (h : oLenL x' v s k = true) : ∃ x s', k x s' = true ∧ Snd P C o v s x s' := by
  obtain ⟨x, hl, hx⟩ := args1 hx
  simp only [oLenL, getK_iff, asSl_iff, retN, natK_eq] at h
  obtain ⟨y, hy, ⟨rfl, hk⟩ | ⟨p, off, n, cc, rfl, hk⟩⟩ := h
  · refine ⟨_, s, hk, .pure fun ρ a w hg he hm => ⟨.int .i64 (0 : Nat), w, ?_, rfl, by simp [conc]⟩⟩
    have e1 : a.eval x = .slice none 0 0 := by simpa [conc] using (od_conc hg he hx hy).symm
    simp [execOp, ho, resolve, hc, hl, invoke, builtin, Builtin.len_, ht, run_underlying (und_slice hti hd), e1, goInt]
  · refine ⟨_, s, hk, .pure fun ρ a w hg he hm => ⟨.int .i64 n, w, ?_, rfl, by simp [conc]⟩⟩
    obtain ⟨L, hL, e1⟩ := slice_inv (od_conc hg he hx hy)
    simp [execOp, ho, resolve, hc, hl, invoke, builtin, Builtin.len_, ht, run_underlying (und_slice hti hd), e1, goInt]
theorem map_inv {ρ : Rho} {p : P2} {u : Value} (h : conc ρ (.map p) = some u) : ∃ L, ρ p = some L ∧ u = .map (some L.blk) := by
  simp only [conc, Option.map_eq_some_iff] at h
  obtain ⟨L, hL, e⟩ := h; exact ⟨L, hL, e.symm⟩
theorem snd_lenM {c : Call} {t e1 e2 : TypeId} {i : TI} {x' : Od} (ho : o.op = .call c) (hc : c.callee = .builtin .len) (ht : c.argTypes[0]? = some t) (hti : TIok P t i) (hd : i.d = .map e1 e2)
    (hx : ods C c.args.toList = some [x']) (h : oLenM x' v s k = true) : ∃ x s', k x s' = true ∧ Snd P C o v s x s' := by
  obtain ⟨x, hl, hx⟩ := args1 hx
  simp only [oLenM, getK_iff, asMap_iff, getMap_iff, retN, natK_eq, lenL_eq] at h
  obtain ⟨y, hy, ⟨rfl, hk⟩ | ⟨p, rfl, es, hs, hk⟩⟩ := h
  · refine ⟨_, s, hk, .pure fun ρ a w hg he hm => ⟨.int .i64 (0 : Nat), w, ?_, rfl, by simp [conc]⟩⟩
    have e1 : a.eval x = .map none := by simpa [conc] using (od_conc hg he hx hy).symm
    simp [execOp, ho, resolve, hc, hl, invoke, builtin, Builtin.len_, ht, run_underlying (und_map hti hd), e1, goInt]
  · refine ⟨_, s, hk, .pure fun ρ a w hg he hm => ⟨.int .i64 es.length, w, ?_, rfl, by simp [conc]⟩⟩
    obtain ⟨L, hL, e1⟩ := map_inv (od_conc hg he hx hy)
    obtain ⟨arr, clock, ha, hsz, _⟩ := hm.blk p L _ hL hs
    simp [execOp, ho, resolve, hc, hl, invoke, builtin, Builtin.len_, ht, run_underlying (und_map hti hd), e1, goInt, run_getObj ha (by simp), hsz]

theorem ifc_inv {ρ : Rho} {t : TypeId} {x : IV} {u : Value} (h : conc ρ (.iface t x) = some u) : ∃ y, conc ρ x = some y ∧ u = .iface t y := by
  simp only [conc, Option.map_eq_some_iff] at h
  obtain ⟨L, hL, e⟩ := h; exact ⟨L, hL, e.symm⟩
theorem zeroV_conc {ρ : Rho} {t : TypeId} {i : TI} {z : IV} (hti : TIok P t i) (hz : zeroV i = some z) (w : World) : ∃ u, (zeroValue t).run P w = .ok u w ∧ conc ρ z = some u := by
  obtain ⟨u, hu, hl, hs, h1, h2⟩ := run_zero hti w
  refine ⟨u, hu, ?_⟩
  have hc := lits_conc ρ hl
  unfold zeroV at hz
  split at hz
  · rename_i ha
    obtain ⟨cs, rfl⟩ := h1 ha
    simp at hz; subst hz
    simp only [Value.cells] at hc
    simp [conc, hc]
  · rename_i ha
    have h3 := h2 (by simpa using ha)
    split at hz
    · rename_i x hx
      simp at hz; subst hz
      rw [hx] at hc
      have : u.cells = #[u] := by cases u <;> first | rfl | exact absurd rfl (h3 _)
      rw [this] at hc
      simp only [concs] at hc
      cases hcx : conc ρ x with
      | none => simp [hcx] at hc
      | some y => simpa [hcx] using hc
    · cases hz
theorem und_not_ifc {t : TypeId} {i : TI} (hti : TIok P t i) (hd1 : i.d ≠ .iface) : ∃ u, P.underlying t = some u ∧ ∀ ms, u ≠ .interface ms := by
  obtain ⟨u, hu, h1⟩ := hti.und
  refine ⟨u, hu, fun ms e => ?_⟩
  subst e
  cases hd : i.d <;> simp [D.ok, hd] at h1
  exact hd1 hd
theorem snd_tass {x : Operand} {xt t : TypeId} {ok : Bool} {i : TI} {z : IV} {x' : Od} (ho : o.op = .typeAssert x xt t ok) (hti : TIok P t i) (hd1 : i.d ≠ .iface) (hz : zeroV i = some z) (hx : od C x = some x')
    (h : oTass t z ok x' v s k = true) : ∃ x s', k x s' = true ∧ Snd P C o v s x s' := by
  simp only [oTass, getK_iff, asIfc_iff, boolK_iff, okK] at h
  obtain ⟨y, hy, h⟩ := h
  obtain ⟨u, hu, hni⟩ := und_not_ifc hti hd1
  have no : ok = true → k (.tup [z, .bool false]) s = true → (∀ (ρ : Rho) (a : Act), Glob C ρ → EnvRel ρ v a.tmps → a.eval x = .nilIface ∨ ∃ d q, d ≠ t ∧ a.eval x = .iface d q) → ∃ x s', k x s' = true ∧ Snd P C o v s x s' := by
    intro hok hk hv
    subst hok
    refine ⟨_, s, hk, .pure fun ρ a w hg he hm => ?_⟩
    obtain ⟨zv, hz1, hz2⟩ := zeroV_conc (ρ := ρ) hti hz w
    refine ⟨.tuple #[zv, .bool false], w, ?_, rfl, by simp [conc, concs, hz2]⟩
    rcases hv ρ a hg he with e | ⟨d, q, hne, e⟩
    · simp only [execOp, ho, Instr.typeAssert, Sem.run_bind, run_underlying hu, Result.andThen_ok, e]
      cases u <;> first | (simp [hz1]; done) | exact absurd rfl (hni _)
    · simp only [execOp, ho, Instr.typeAssert, Sem.run_bind, run_underlying hu, Result.andThen_ok, e]
      cases u <;> first | (simp [hz1, hne]; done) | exact absurd rfl (hni _)
  rcases h with ⟨rfl, h⟩ | ⟨d, q, rfl, h⟩
  · rcases h with ⟨hok, hk⟩ | ⟨_, h⟩
    · exact no hok hk fun ρ a hg he => .inl (by simpa [conc] using (od_conc hg he hx hy).symm)
    · cases h
  · rcases h with ⟨e0, h⟩ | ⟨e0, h⟩
    · have e := Nat.eq_of_beq_eq_true e0
      subst e
      have yes : ∀ (ρ : Rho) (a : Act) (w : World), Glob C ρ → EnvRel ρ v a.tmps → ∃ q', conc ρ q = some q' ∧ (execOp a.eval o).run P w = .ok (.value (if ok then .tuple #[q', .bool true] else q')) w := by
        intro ρ a w hg he
        obtain ⟨q', hq, e⟩ := ifc_inv (od_conc hg he hx hy)
        refine ⟨q', hq, ?_⟩
        simp only [execOp, ho, Instr.typeAssert, Sem.run_bind, run_underlying hu, Result.andThen_ok, e]
        cases u <;> first | (simp; done) | exact absurd rfl (hni _)
      rcases h with ⟨hok, hk⟩ | ⟨hok, hk⟩
      · refine ⟨_, s, hk, .pure fun ρ a w hg he hm => ?_⟩
        obtain ⟨q', hq, h1⟩ := yes ρ a w hg he
        exact ⟨_, w, h1, rfl, by simp [hok, conc, concs, hq]⟩
      · refine ⟨_, s, hk, .pure fun ρ a w hg he hm => ?_⟩
        obtain ⟨q', hq, h1⟩ := yes ρ a w hg he
        exact ⟨_, w, h1, rfl, by simp [hok, hq]⟩
    · have hne := Nat.ne_of_beq_eq_false e0
      rcases h with ⟨hok, hk⟩ | ⟨_, h⟩
      · exact no hok hk fun ρ a hg he => by
          obtain ⟨q', hq, e⟩ := ifc_inv (od_conc hg he hx hy)
          exact .inr ⟨d, q', hne, e⟩
      · cases h
end
end Go.Ev
