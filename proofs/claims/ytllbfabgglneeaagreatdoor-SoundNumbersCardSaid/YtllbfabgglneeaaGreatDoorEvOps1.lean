/- DERIVED. The ideal machine's operations against the model's, one by one: the first half. -/
import Derived.Test.YtllbfabgglneeaaGreatDoorEvSteps
import Derived.Laws.StructEq
import Derived.Lib.Index
set_option linter.unusedVariables false
namespace Go.Ev

/-! ### What is asked of the tables -/
def D.ok (d : D) (u : TypeDesc) : Bool := match d, u with
  | .bool, .bool | .str, .string | .func, .func .. | .iface, .interface _ => true
  | .int k, .int l => k == l
  | .ptr e, .pointer f | .slice e, .slice f => e == f
  | .array n e, .array m f => n == m && e == f
  | .struct fs, .struct gs => (gs.toList.map fun f => (f.offset, f.type)) == fs
  | .map k e, .map l f => k == l && e == f
  | _, _ => false
structure TIok (P : Program) (t : TypeId) (i : TI) : Prop where
  und : ∃ u, P.underlying t = some u ∧ i.d.ok u = true
  info : ∃ f, P.info? t = some f ∧ f.size = i.size ∧ f.bytes = i.bytes ∧ ∃ z, f.zero = some z ∧ lits z.cells.toList = some i.zero ∧ z.cells.size = i.size ∧ (i.d.agg = true → ∃ cs, z = .agg cs) ∧ (i.d.agg = false → ∀ cs, z ≠ .agg cs)
  one : i.d.agg = false → i.size = 1
  fld : ∀ fs, P.underlying t = some (.struct fs) → ∀ f ∈ fs.toList, ∃ g, P.info? f.type = some g
def ExtOk (P : Program) (C : Ctx) (f : FuncId) : Ext → Prop
  | .count => ∃ fn, P.funcs[f]? = some fn ∧ fn.body.isNone = true ∧ (fn.name == "runtime.NumGoroutine") = false ∧ Extern.findNext fn = none ∧ Extern.find fn = some Extern.BytealgCount.count
  | .indexByte => ∃ fn, P.funcs[f]? = some fn ∧ fn.body.isNone = true ∧ (fn.name == "runtime.NumGoroutine") = false ∧ Extern.findNext fn = none ∧ Extern.find fn = some Extern.BytealgIndexByte.indexByte
  | .index p => ∃ g fn, p = P2.ofNat g ∧ C.glob g = true ∧ P.funcs[f]? = some fn ∧ fn.body.isNone = false ∧ (fn.name == "runtime.NumGoroutine") = false ∧
      ∀ (s sub : ByteArray) (m : Int) (w : World), s.size < 4294967281 → w.cell? ⟨g, 0, none⟩ = some (.int .i64 m) → Calls P f #[.string s, .string sub] w fun e w' => e = .returned (.int .i64 (Lib.index s.data.toList sub.data.toList)) ∧ w' = w
structure CtxOk (P : Program) (C : Ctx) : Prop where
  ty : ∀ t i, C.ty t = some i → TIok P t i
  eqs : ∀ t, C.eqs t = true → P.stoodInHeld t = false ∧ P.eqGuardType P.depth t = false ∧ ∀ f ∈ (P.fieldsOf t).toList, f.name ≠ "_"
  pts : ∀ t ∈ C.pts, ∃ te i j, P.underlying t = some (.pointer te) ∧ P.info? t = some i ∧ i.comparable = true ∧ P.info? te = some j ∧ j.size ≠ 0
  its : ∀ t ∈ C.its, ∃ k i, P.underlying t = some (.int k) ∧ P.info? t = some i ∧ i.comparable = true
  ext : ∀ f e, C.ext f = some e → ExtOk P C f e
def Glob (C : Ctx) (ρ : Rho) : Prop := ∀ g, C.glob g = true → ∃ cap, ρ (P2.ofNat g) = some ⟨g, 0, cap⟩
theorem Glob.mono {C : Ctx} {ρ ρ' : Rho} (h : Glob C ρ) (e : Ext' ρ ρ') : Glob C ρ' := fun g hg => let ⟨c, hc⟩ := h g hg; ⟨c, e _ _ hc⟩

/-! ### Constants -/
theorem packL_digit : ∀ (l : List UInt8) (j : Nat), packL l / 256 ^ j % 256 = (l.getD j 0).toNat
  | [], j => by simp [packL]
  | b :: r, 0 => by have := b.toNat_lt; simp [packL]
  | b :: r, j + 1 => by
    have h1 := b.toNat_lt
    have h2 : packL (b :: r) / 256 ^ (j + 1) = packL r / 256 ^ j := by
      rw [Nat.pow_succ, Nat.mul_comm, ← Nat.div_div_eq_div_mul]
      congr 1
      simp only [packL]; omega
    rw [h2, packL_digit r j]; rfl
theorem strB_pack (s : ByteArray) : strB s.data.toList.length (packL s.data.toList) = s := by
  have h : ((List.range s.data.toList.length).map fun j => UInt8.ofNat (packL s.data.toList / 256 ^ j % 256)) = s.data.toList := by
    apply List.ext_getElem?; intro j
    simp only [List.getElem?_map, packL_digit]
    by_cases hj : j < s.data.toList.length
    · rw [List.getElem?_range hj, List.getElem?_eq_getElem hj]; simp only [Option.map_some, List.getD_eq_getElem?_getD, List.getElem?_eq_getElem hj, Option.getD_some, UInt8.ofNat_toNat]
    · rw [List.getElem?_eq_none (by simp at hj ⊢; omega), List.getElem?_eq_none (by omega)]; rfl
  unfold strB; rw [h]
theorem lit1_conc (ρ : Rho) {v : Value} {x : IV} (h : lit1 v = some x) : conc ρ x = some v := by
  unfold lit1 at h
  split at h <;> simp at h <;> subst h <;> simp [conc]
  simpa using strB_pack _
theorem lits_conc (ρ : Rho) : ∀ {l : List Value} {x : List IV}, lits l = some x → concs ρ x = some l
  | [], x, h => by simp [lits] at h; subst h; rfl
  | v :: r, x, h => by
    simp only [lits] at h
    cases h1 : lit1 v with
    | none => simp [h1] at h
    | some a => cases h2 : lits r with
      | none => simp [h1, h2] at h
      | some b => simp [h1, h2] at h; subst h; simp [concs, lit1_conc ρ h1, lits_conc ρ h2]
theorem lits_lone : ∀ {l : List Value} {x : List IV}, lits l = some x → ∀ y ∈ x, y.lone = true
  | [], x, h => by simp [lits] at h; subst h; simp
  | v :: r, x, h => by
    simp only [lits] at h
    cases h1 : lit1 v with
    | none => simp [h1] at h
    | some a => cases h2 : lits r with
      | none => simp [h1, h2] at h
      | some b =>
        simp [h1, h2] at h; subst h
        intro y hy
        rcases List.mem_cons.1 hy with rfl | hy
        · unfold lit1 at h1; split at h1 <;> simp at h1 <;> subst h1 <;> rfl
        · exact lits_lone h2 y hy
theorem lit_conc (ρ : Rho) {v : Value} {x : IV} (h : lit v = some x) : conc ρ x = some v := by
  unfold lit at h
  split at h
  · simp at h; subst h; simp [conc, concs]
  · rename_i cs
    cases h2 : lits cs.toList with
    | none => simp [h2] at h
    | some l => simp [h2] at h; subst h; simp [conc, lits_conc ρ h2]
  · exact lit1_conc ρ h

/-! ### Operands -/
theorem at_mk (v : Env) (t : Nat) : (Od.t (t / 8) (t % 8)).den v = v.at t := rfl
theorem od_conc {C : Ctx} {ρ : Rho} {v : Env} {a : Act} {x : Operand} {y : Od} {z : IV} (hg : Glob C ρ) (he : EnvRel ρ v a.tmps) (h : od C x = some y) (hz : y.den v = some z) : conc ρ z = some (a.eval x) := by
  cases x with
  | tmp t => simp [od] at h; subst h; rw [at_mk] at hz; exact (he t z hz).2
  | const c =>
    simp only [od] at h
    cases hc : lit c with
    | none => simp [hc] at h
    | some u => simp [hc] at h; subst h; simp [Od.den] at hz; subst hz; exact lit_conc ρ hc
  | global g =>
    simp only [od] at h
    split at h
    · rename_i hgg; simp at h; subst h; simp [Od.den] at hz; subst hz
      obtain ⟨cap, hc⟩ := hg g hgg
      simp [conc, hc, Act.eval]
    · cases h
  | func f => simp [od] at h; subst h; simp [Od.den] at hz; subst hz; simp [conc, concs, Act.eval]
theorem ods_concs {C : Ctx} {ρ : Rho} {v : Env} {a : Act} (hg : Glob C ρ) (he : EnvRel ρ v a.tmps) : ∀ {l : List Operand} {y : List Od} {z : List IV}, ods C l = some y → dens v y = some z → concs ρ z = some (l.map a.eval)
  | [], y, z, h, hz => by simp [ods] at h; subst h; simp [dens] at hz; subst hz; rfl
  | x :: r, y, z, h, hz => by
    simp only [ods] at h
    cases h1 : od C x with
    | none => simp [h1] at h
    | some p => cases h2 : ods C r with
      | none => simp [h1, h2] at h
      | some q =>
        simp [h1, h2] at h; subst h
        simp only [dens] at hz
        cases h3 : p.den v with
        | none => simp [h3] at hz
        | some c => cases h4 : dens v q with
          | none => simp [h3, h4] at hz
          | some d => simp [h3, h4] at hz; subst hz; simp [concs, od_conc hg he h1 h3, ods_concs hg he h2 h4]

/-! ### What an operation comes to -/
def OpRes (P : Program) (R : Value → World → Prop) : Result Next → Prop
  | .ok (.value x) w' => R x w'
  | .ok .skip w' => R undef w'
  | .ok (.enter f args) w' => Calls P f args w' fun e w'' => ∃ x, e = .returned x ∧ R x w''
  | _ => False
def OpWp (P : Program) (o : Oper) (a : Act) (w : World) (R : Value → World → Prop) : Prop := OpRes P R ((execOp a.eval o).run P w)
theorem OpWp.wp {P : Program} {o : Oper} {a : Act} {w : World} {R : Value → World → Prop} (h : OpWp P o a w R) {K : Act → World → Prop} {Q : Exit → Act → World → Prop} (hK : ∀ x w', R x w' → K (a.put o.dst x) w') : o.wp P a w K Q := by
  unfold OpWp at h
  unfold Oper.wp
  generalize (execOp a.eval o).run P w = r at h
  cases r with
  | ok n w' =>
    cases n <;> simp only [OpRes] at h <;> try exact h.elim
    · exact hK _ _ h
    · exact hK _ _ h
    · exact h.mono fun e w'' ⟨x, he, hr⟩ => by subst he; exact hK x w'' hr
  | halt x w' => exact h.elim
theorem OpWp.value {P : Program} {o : Oper} {a : Act} {w w' : World} {R : Value → World → Prop} {x : Value} (h : (execOp a.eval o).run P w = .ok (.value x) w') (hr : R x w') : OpWp P o a w R := by
  unfold OpWp; rw [h]; exact hr
theorem OpWp.skip {P : Program} {o : Oper} {a : Act} {w w' : World} {R : Value → World → Prop} (h : (execOp a.eval o).run P w = .ok .skip w') (hr : R undef w') : OpWp P o a w R := by
  unfold OpWp; rw [h]; exact hr
theorem OpWp.enter {P : Program} {o : Oper} {a : Act} {w w' : World} {R : Value → World → Prop} {f : FuncId} {args : Array Value} (h : (execOp a.eval o).run P w = .ok (.enter f args) w')
    (hc : Calls P f args w' fun e w'' => ∃ x, e = .returned x ∧ R x w'') : OpWp P o a w R := by
  unfold OpWp; rw [h]; exact hc
theorem conc_undef (ρ : Rho) : conc ρ (.tup []) = some undef := by simp [conc, concs, undef]

structure Snd (P : Program) (C : Ctx) (o : Oper) (v : Env) (s : St) (x : IV) (s' : St) : Prop where
  nx : s.nx.num ≤ s'.nx.num
  run : ∀ (ρ : Rho) (a : Act) (w : World), Glob C ρ → EnvRel ρ v a.tmps → MemRel ρ s w → NoDom ρ s s' → OpWp P o a w (fun xv w' => ∃ ρ', conc ρ' x = some xv ∧ Step ρ s w ρ' s' w')

/-- An operation that leaves memory alone. -/
theorem Snd.pure {P : Program} {C : Ctx} {o : Oper} {v : Env} {s : St} {x : IV}
    (h : ∀ (ρ : Rho) (a : Act) (w : World), Glob C ρ → EnvRel ρ v a.tmps → MemRel ρ s w → ∃ xv w', (execOp a.eval o).run P w = .ok (.value xv) w' ∧ Turned w w' w.heap ∧ conc ρ x = some xv) : Snd P C o v s x s :=
  ⟨Nat.le_refl _, fun ρ a w hg he hm _ => let ⟨xv, w', h1, h2, h3⟩ := h ρ a w hg he hm; .value h1 ⟨ρ, h3, Step.same hm h2⟩⟩

variable {P : Program} {C : Ctx} {o : Oper} {v : Env} {s : St} {k : KO}

theorem snd_mv {x : Operand} {y : Od} (ho : o.op = .move x ∨ o.op = .assign x) (hy : od C x = some y) (h : oMv y v s k = true) : ∃ x s', k x s' = true ∧ Snd P C o v s x s' := by
  obtain ⟨z, hz, hk⟩ := (getK_iff _ _ _).1 h
  refine ⟨z, s, hk, .pure fun ρ a w hg he hm => ⟨_, w, ?_, rfl, od_conc hg he hy hz⟩⟩
  rcases ho with ho | ho <;> simp [execOp, ho]

theorem snd_pick {c x y : Operand} {c' x' y' : Od} (ho : o.op = .pick c x y) (hc : od C c = some c') (hx : od C x = some x') (hy : od C y = some y') (h : oPick c' x' y' v s k = true) : ∃ x s', k x s' = true ∧ Snd P C o v s x s' := by
  simp only [oPick, getK_iff, asBool_iff] at h
  obtain ⟨z, hz, b, rfl, h⟩ := h
  have key : ∀ ρ (a : Act), Glob C ρ → EnvRel ρ v a.tmps → a.eval c = .bool b := fun ρ a hg he => by
    have := od_conc hg he hc hz
    simpa [conc] using this.symm
  cases b with
  | true =>
    rw [boolK_iff] at h; simp only [Bool.true_eq_false, false_and, or_false, true_and, getK_iff] at h
    obtain ⟨u, hu, hk⟩ := h
    exact ⟨u, s, hk, .pure fun ρ a w hg he hm => ⟨_, w, by simp [execOp, ho, key ρ a hg he, Go.asBool], rfl, od_conc hg he hx hu⟩⟩
  | false =>
    rw [boolK_iff] at h; simp only [Bool.false_eq_true, false_and, false_or, true_and, getK_iff] at h
    obtain ⟨u, hu, hk⟩ := h
    exact ⟨u, s, hk, .pure fun ρ a w hg he hm => ⟨_, w, by simp [execOp, ho, key ρ a hg he, Go.asBool], rfl, od_conc hg he hy hu⟩⟩

/-! ### The model's looks at types -/
theorem run_info {t : TypeId} {i : TI} (h : TIok P t i) (w : World) : ∃ f, (typeInfo t).run P w = .ok f w ∧ f.size = i.size ∧ f.bytes = i.bytes := by
  obtain ⟨f, hf, h1, h2, _⟩ := h.info
  exact ⟨f, by simp [typeInfo, hf], h1, h2⟩
theorem run_size {t : TypeId} {i : TI} (h : TIok P t i) (w : World) : (sizeOf t).run P w = .ok i.size w := by
  obtain ⟨f, hf, h1, _⟩ := run_info h w
  simp [sizeOf, hf, h1]
theorem run_zero {t : TypeId} {i : TI} (h : TIok P t i) (w : World) : ∃ z, (zeroValue t).run P w = .ok z w ∧ lits z.cells.toList = some i.zero ∧ z.cells.size = i.size ∧ (i.d.agg = true → ∃ cs, z = .agg cs) ∧ (i.d.agg = false → ∀ cs, z ≠ .agg cs) := by
  obtain ⟨f, hf, _, _, z, hz, h1, h2⟩ := h.info
  exact ⟨z, by simp [zeroValue, typeInfo, hf, hz], h1, h2⟩
theorem run_und {t : TypeId} {i : TI} (h : TIok P t i) (w : World) : ∃ u, (underlying t).run P w = .ok u w ∧ i.d.ok u = true := by
  obtain ⟨u, hu, h1⟩ := h.und
  exact ⟨u, run_underlying hu w, h1⟩
theorem run_agg {t : TypeId} {i : TI} (h : TIok P t i) (w : World) : (isAgg t).run P w = .ok i.d.agg w := by
  obtain ⟨u, hu, h1⟩ := run_und h w
  simp only [isAgg, Sem.run_bind, hu, Result.andThen_ok]
  cases hd : i.d <;> cases u <;> simp [D.ok, hd] at h1 <;> simp [D.agg]

theorem snd_new {t : TypeId} {i : TI} (ho : o.op = .alloc t) (hi : TIok P t i) (h : oNew i.zero t v s k = true) : ∃ x s', k x s' = true ∧ Snd P C o v s x s' := by
  simp only [oNew, newB_eq] at h
  refine ⟨_, _, h, by rw [St.nx_add]; omega, fun ρ a w hg he hm hn => ?_⟩
  obtain ⟨z, hz, hl, _⟩ := run_zero hi w
  have hn' := hn.nxt
  refine .value (x := .pointer (some ⟨w.heap.size, 0, none⟩)) (w' := { w with heap := w.heap.push (.cells z.cells t) }) (by simp [execOp, ho, Instr.alloc, hz, newVar, newRow]) ⟨_, ?_, Step.add 0 hm hn' rfl ?_⟩
  · simp [conc]
  · have hc := lits_conc (ρ.set s.nx ⟨w.heap.size, 0, 0⟩) hl
    obtain ⟨h1, h2⟩ := (concs_iff _ _ _).1 hc
    exact ⟨z.cells, (0, 0), rfl, by simp at h1 ⊢; omega, fun j x hj => by
      obtain ⟨u, hu, hx⟩ := h2 j x hj
      exact ⟨u, hx, by simpa using hu⟩, fun _ j _ => by simp, fun hsz => absurd hsz (by simp), fun _ => rfl⟩

/-- A row of cells, as the ideal machine lays it. -/
theorem BlkRel.row {ρ : Rho} {g : Nat} {cs : List IV} {arr : Array Value} {t : TypeId} (h : concs ρ cs = some arr.toList) : BlkRel ρ ⟨g, 0, 0⟩ (.cells cs true 0 t) (some (.cells arr t)) := by
  obtain ⟨h1, h2⟩ := (concs_iff _ _ _).1 h
  exact ⟨arr, (0, 0), rfl, by simp at h1 ⊢; omega, fun j x hj => by
    obtain ⟨u, hu, hx⟩ := h2 j x hj
    exact ⟨u, hx, by simpa using hu⟩, fun _ j _ => by simp, fun hsz => absurd hsz (by simp), fun _ => rfl⟩

theorem cells_conc {ρ : Rho} {x : IV} {u : Value} (h : conc ρ x = some u) (hl : ∀ l, x ≠ .tup l) : concs ρ x.cells = some u.cells.toList := by
  refine conc_cells h ?_
  cases x <;> first | exact .inl rfl | exact .inr ⟨_, rfl⟩ | exact absurd rfl (hl _)
/-- A tuple is no variable's value: it has one cell here, and one there. -/
theorem cells_conc' {ρ : Rho} {x : IV} {u : Value} (h : conc ρ x = some u) : concs ρ x.cells = some u.cells.toList := by
  cases x with
  | tup l =>
    have h' := h
    simp only [conc, Option.map_eq_some_iff] at h'
    obtain ⟨y, hy, rfl⟩ := h'
    simp [IV.cells, Value.cells, concs, h]
  | _ => exact cells_conc h (by simp)

theorem snd_box {t : TypeId} {x : Operand} {y : Od} (ho : o.op = .box t x) (hy : od C x = some y) (h : oBox y t v s k = true) : ∃ x s', k x s' = true ∧ Snd P C o v s x s' := by
  simp only [oBox, newB_eq, getK_iff, cellsK_eq] at h
  obtain ⟨z, hz, h⟩ := h
  refine ⟨_, _, h, by rw [St.nx_add]; omega, fun ρ a w hg he hm hn => ?_⟩
  have hc := od_conc hg he hy hz
  refine .value (x := .pointer (some ⟨w.heap.size, 0, none⟩)) (w' := { w with heap := w.heap.push (.cells (a.eval x).cells t) }) (by simp [execOp, ho, Instr.box, newVar, newRow]) ⟨_, ?_, Step.add 0 hm hn.nxt rfl ?_⟩
  · simp [conc]
  · exact .row (concs_mono (Rho.set_ext _ hn.nxt) _ _ (cells_conc' hc))

/-- Where a pointer leads. -/
theorem ptr_inv {ρ : Rho} {p : P2} {off : Nat} {u : Value} (h : conc ρ (.ptr p off) = some u) : ∃ L, ρ p = some L ∧ u = .pointer (some ⟨L.blk, L.base + off, none⟩) := by
  simp only [conc, Option.map_eq_some_iff] at h
  obtain ⟨L, hL, e⟩ := h; exact ⟨L, hL, e.symm⟩
theorem cell_at {ρ : Rho} {s : St} {w : World} (hm : MemRel ρ s w) {p : P2} {L : Loc} {cs : List IV} {wr : Bool} {sz : Nat} {t : TypeId} (hp : ρ p = some L) (hs : s.get p = some (.cells cs wr sz t)) {j : Nat} {x : IV} (hj : cs[j]? = some x) :
    ∃ u, conc ρ x = some u ∧ w.cell? ⟨L.blk, L.base + j, none⟩ = some u := by
  obtain ⟨arr, fr, h1, _, h3, _⟩ := hm.blk p L _ hp hs
  obtain ⟨u, hu, ha⟩ := h3 j x hj
  exact ⟨u, hu, by rw [cell_of h1, ha]⟩
theorem cells_at {ρ : Rho} {s : St} {w : World} (hm : MemRel ρ s w) {p : P2} {L : Loc} {cs : List IV} {wr : Bool} {sz : Nat} {t : TypeId} (hp : ρ p = some L) (hs : s.get p = some (.cells cs wr sz t)) {off n : Nat} (h1 : off ≤ cs.length) (h2 : n ≤ (cs.drop off).length) :
    ∃ us : List Value, concs ρ ((cs.drop off).take n) = some us ∧ us.length = n ∧ ∀ j u, us[j]? = some u → w.cell? ((⟨L.blk, L.base + off, none⟩ : Addr).add j) = some u := by
  obtain ⟨us, hus⟩ := concs_all (ρ := ρ) (l := (cs.drop off).take n) fun x hx => by
    obtain ⟨j, hj⟩ := List.getElem?_of_mem (List.mem_of_mem_drop (List.mem_of_mem_take hx))
    exact let ⟨u, hu, _⟩ := cell_at hm hp hs hj; ⟨u, hu⟩
  obtain ⟨h3, h4⟩ := (concs_iff _ _ _).1 hus
  refine ⟨us, hus, by rw [h3, List.length_take]; omega, fun j u hj => ?_⟩
  have hlt : j < n := by
    have := (List.getElem?_eq_some_iff.1 hj).1
    rw [h3, List.length_take] at this; omega
  have hlt2 : off + j < cs.length := by simp at h2; omega
  have hx : ((cs.drop off).take n)[j]? = some cs[off + j] := by rw [List.getElem?_take, if_pos hlt, List.getElem?_drop, List.getElem?_eq_getElem hlt2]
  obtain ⟨u', hu', hc'⟩ := h4 j _ hx
  obtain ⟨u2, hc2, hw⟩ := cell_at hm hp hs (List.getElem?_eq_getElem hlt2)
  rw [hc'] at hc2; cases hc2
  rw [hj] at hu'; cases hu'
  rw [Addr.add_mk, Nat.add_assoc]; exact hw
theorem run_load1 {t : TypeId} {i : TI} (hi : TIok P t i) (ha : i.d.agg = false) {w : World} {ad : Addr} {u : Value} (h : w.cell? ad = some u) : (loadVar t ad).run P w = .ok u w := by
  simp [loadVar, run_agg hi, ha, h]
theorem run_loadN {t : TypeId} {i : TI} (hi : TIok P t i) (ha : i.d.agg = true) {w : World} {ad : Addr} {us : List Value} (hl : us.length = i.size) (h : ∀ j u, us[j]? = some u → w.cell? (ad.add j) = some u) : (loadVar t ad).run P w = .ok (.agg us.toArray) w := by
  have := run_loadCells_list (P := P) w ad us h
  rw [hl] at this
  simp [loadVar, run_agg hi, ha, run_size hi, this]

theorem snd_load1 {t : TypeId} {i : TI} {x : Operand} {y : Od} (ho : o.op = .load t x) (hi : TIok P t i) (ha : i.d.agg = false) (hy : od C x = some y) (h : oLoad1 y v s k = true) : ∃ x s', k x s' = true ∧ Snd P C o v s x s' := by
  simp only [oLoad1, getK_iff, asPtr_iff, getC_iff, nthK_iff] at h
  obtain ⟨z, hz, p, off, rfl, cs, wr, sz, u, hs, x', hx, hk⟩ := h
  refine ⟨x', s, hk, .pure fun ρ a w hg he hm => ?_⟩
  obtain ⟨L, hL, e⟩ := ptr_inv (od_conc hg he hy hz)
  obtain ⟨c, hc, hw⟩ := cell_at hm hL hs hx
  exact ⟨c, w, by simp [execOp, ho, Instr.loadAt, e, Instr.sureAddr, run_load1 hi ha hw], rfl, hc⟩
theorem snd_loadN {t : TypeId} {i : TI} {x : Operand} {y : Od} (ho : o.op = .load t x) (hi : TIok P t i) (ha : i.d.agg = true) (hy : od C x = some y) (h : oLoadN i.size y v s k = true) : ∃ x s', k x s' = true ∧ Snd P C o v s x s' := by
  simp only [oLoadN, getK_iff, asPtr_iff, getC_iff, dropK_iff, takeK_iff] at h
  obtain ⟨z, hz, p, off, rfl, cs, wr, sz, u, hs, h1, h2, hk⟩ := h
  refine ⟨_, s, hk, .pure fun ρ a w hg he hm => ?_⟩
  obtain ⟨L, hL, e⟩ := ptr_inv (od_conc hg he hy hz)
  obtain ⟨us, hus, hl, hw⟩ := cells_at hm hL hs h1 h2
  exact ⟨.agg us.toArray, w, by simp [execOp, ho, Instr.loadAt, e, Instr.sureAddr, run_loadN hi ha hl hw], rfl, by simp [conc, hus]⟩

theorem oneC_eq (v : Value) : v.oneCell' = oneC v := by cases v <;> rfl
/-- Cells laid over a block's. -/
theorem BlkRel.over {ρ : Rho} {L : Loc} {cs news : List IV} {wr : Bool} {sz : Nat} {t : TypeId} {off : Nat} {arr : Array Value} {fr : Nat × Nat} {us : List Value}
    (h : BlkRel ρ L (.cells cs wr sz t) (some (.cells arr t fr))) (hn : concs ρ news = some us) (hl : off + news.length ≤ cs.length) :
    BlkRel ρ L (.cells (cs.take off ++ news ++ cs.drop (off + news.length)) wr sz t) (some (.cells (arr.toList.take (L.base + off) ++ us ++ arr.toList.drop (L.base + off + us.length)).toArray t fr)) := by
  obtain ⟨arr', fr', he, h2, h3, h4, h5⟩ := h
  cases he
  obtain ⟨n1, n2⟩ := (concs_iff _ _ _).1 hn
  have hsz : (arr.toList.take (L.base + off) ++ us ++ arr.toList.drop (L.base + off + us.length)).length = arr.size := by simp; omega
  have hcl : (cs.take off ++ news ++ cs.drop (off + news.length)).length = cs.length := by simp; omega
  refine ⟨_, fr, rfl, by simp only [List.size_toArray, hsz, hcl]; exact h2, ?_, by simp only [List.size_toArray, hsz]; exact h4, by simp only [List.size_toArray, hsz, hcl]; exact h5.1, h5.2⟩
  intro j x hj
  simp only [List.getElem?_toArray]
  by_cases c1 : j < off
  · have hx : cs[j]? = some x := by
      rw [List.append_assoc, List.getElem?_append_left (by simp; omega), List.getElem?_take, if_pos c1] at hj; exact hj
    obtain ⟨u, hu, ha⟩ := h3 j x hx
    refine ⟨u, hu, ?_⟩
    rw [List.append_assoc, List.getElem?_append_left (by simp; omega), List.getElem?_take, if_pos (by omega)]
    simpa using ha
  · by_cases c2 : j < off + news.length
    · have hx : news[j - off]? = some x := by
        rw [List.append_assoc, List.getElem?_append_right (by simp; omega)] at hj
        rw [List.getElem?_append_left (by simp; omega)] at hj
        rw [List.length_take, Nat.min_eq_left (by omega)] at hj; exact hj
      obtain ⟨u, hu, hc⟩ := n2 _ x hx
      refine ⟨u, hc, ?_⟩
      rw [List.append_assoc, List.getElem?_append_right (by simp; omega), List.getElem?_append_left (by simp; omega), List.length_take, Nat.min_eq_left (by simp; omega)]
      rw [show L.base + j - (L.base + off) = j - off by omega]; exact hu
    · have hx : cs[j]? = some x := by
        rw [List.append_assoc, List.getElem?_append_right (by simp; omega), List.getElem?_append_right (by simp; omega), List.getElem?_drop, List.length_take, Nat.min_eq_left (by omega)] at hj
        rw [show off + news.length + (j - off - news.length) = j by omega] at hj; exact hj
      obtain ⟨u, hu, ha⟩ := h3 j x hx
      refine ⟨u, hu, ?_⟩
      rw [List.append_assoc, List.getElem?_append_right (by simp; omega), List.getElem?_append_right (by simp; omega), List.getElem?_drop, List.length_take, Nat.min_eq_left (by simp; omega)]
      rw [show L.base + off + us.length + (L.base + j - (L.base + off) - us.length) = L.base + j by omega]
      simpa using ha

/-- Cells stored into a block. -/
theorem store_step {ρ : Rho} {s : St} {w : World} (hm : MemRel ρ s w) {p : P2} {L : Loc} {cs news : List IV} {sz : Nat} {t : TypeId} {off : Nat} {us : List Value}
    (hp : ρ p = some L) (hs : s.get p = some (.cells cs true sz t)) (hn : concs ρ news = some us) (hl : off + news.length ≤ cs.length) (h1 : ∀ x ∈ news, x.lone = true) :
    ∃ w', (storeCells ⟨L.blk, L.base + off, none⟩ us).run P w = .ok () w' ∧ Step ρ s w ρ (s.put p (.cells (cs.take off ++ news ++ cs.drop (off + news.length)) true sz t)) w' := by
  have hb := hm.blk p L _ hp hs
  obtain ⟨arr, fr, he, h2, h3, h4, h5⟩ := hb
  obtain ⟨n1, n2⟩ := (concs_iff _ _ _).1 hn
  have hone : ∀ u ∈ us, u.oneCell' = true := fun u hu => by
    obtain ⟨j, hj⟩ := List.getElem?_of_mem hu
    have hlt : j < news.length := by rw [← n1]; exact (List.getElem?_eq_some_iff.1 hj).1
    obtain ⟨u', hu', hc⟩ := n2 j _ (List.getElem?_eq_getElem hlt)
    rw [hj] at hu'; cases hu'
    rw [oneC_eq]; exact conc_lone hc (h1 _ (List.getElem_mem hlt))
  refine ⟨_, run_storeCells' L.blk (L.base + off) t fr us 0 arr w he (by omega) (h4 rfl) hone, ?_⟩
  refine Step.put hm hp hs rfl rfl ?_
  have := BlkRel.over (off := off) (us := us) (news := news) (ρ := ρ) (L := L) (cs := cs) (wr := true) (sz := sz) (t := t) (arr := arr) (fr := fr) ⟨arr, fr, rfl, h2, h3, h4, h5⟩ hn hl
  simpa using this

theorem snd_store {t : TypeId} {i : TI} {x y : Operand} {x' y' : Od} (ho : o.op = .store t x y) (hi : TIok P t i) (hx : od C x = some x') (hy : od C y = some y') (h : oStore i.size x' y' v s k = true) : ∃ x s', k x s' = true ∧ Snd P C o v s x s' := by
  simp only [oStore, getK_iff, asPtr_iff, cellsK_eq, lenK_eq, boolK_t, areCells_iff, getC_iff, overK_iff, putB_eq] at h
  obtain ⟨z, hz, p, off, rfl, q, hq, hlen, hone, cs, wr, sz, u, hs, rfl, hl, hk⟩ := h
  refine ⟨_, _, hk, Nat.le_refl _, fun ρ a w hg he hm hn => ?_⟩
  obtain ⟨L, hL, e⟩ := ptr_inv (od_conc hg he hx hz)
  have hc := cells_conc' (od_conc hg he hy hq)
  have hsz : (a.eval y).cells.size = i.size := by
    have := ((concs_iff _ _ _).1 hc).1
    simp at this; rw [this]; exact Nat.eq_of_beq_eq_true hlen
  obtain ⟨w', hw', hst⟩ := store_step (P := P) hm hL hs hc hl hone
  exact .skip (w' := w') (by simp [execOp, ho, Instr.storeAt, e, Instr.sureAddr, storeVar, run_size hi, hsz, hw']) ⟨ρ, conc_undef ρ, hst⟩

theorem snd_nilck {x : Operand} {y : Od} (ho : o.op = .nilCheck x) (hy : od C x = some y) (h : oNilck y v s k = true) : ∃ x s', k x s' = true ∧ Snd P C o v s x s' := by
  simp only [oNilck, getK_iff, nilckK_iff] at h
  obtain ⟨z, hz, h⟩ := h
  have hk : k z s = true := by rcases h with ⟨_, _, _, h⟩ | ⟨_, _, _, _, h⟩ | ⟨_, _, _, h⟩ <;> exact h
  refine ⟨z, s, hk, .pure fun ρ a w hg he hm => ⟨a.eval x, w, ?_, rfl, od_conc hg he hy hz⟩⟩
  have hc := od_conc hg he hy hz
  rcases h with ⟨p, off, rfl, _⟩ | ⟨f, b, c, rfl, _⟩ | ⟨t, u, rfl, _⟩
  · obtain ⟨L, _, e⟩ := ptr_inv hc
    simp [execOp, ho, e]
  · simp only [conc] at hc
    cases h1 : concs ρ b <;> cases h2 : concs ρ c <;> simp [h1, h2] at hc
    rw [← hc]; simp [execOp, ho, ← hc]
  · simp only [conc, Option.map_eq_some_iff] at hc
    obtain ⟨y, _, e⟩ := hc
    simp [execOp, ho, ← e]
end Go.Ev
