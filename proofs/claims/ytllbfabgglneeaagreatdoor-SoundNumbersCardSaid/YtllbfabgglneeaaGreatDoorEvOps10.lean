/- DERIVED. The ideal machine's operations against the model's: copy, least and most, bytes and strings, walks over strings. -/
import Derived.Test.YtllbfabgglneeaaGreatDoorEvOps9
import Derived.Laws.BytesString
set_option linter.unusedVariables false
set_option linter.unusedSimpArgs false
namespace Go.Ev
section
variable {P : Program} {C : Ctx} {o : Oper} {v : Env} {s : St} {k : KO}

theorem snd_cpy {c : Call} {t e : TypeId} {i ie : TI} {x' y' : Od} (ho : o.op = .call c) (hc : c.callee = .builtin .copy) (h0 : c.argTypes[0]? = some t) (hti : TIok P t i) (hd : i.d = .slice e) (hie : TIok P e ie)
    (hx : ods C c.args.toList = some [x', y']) (h : oCpy ie.size x' y' v s k = true) : ∃ x s', k x s' = true ∧ Snd P C o v s x s' := by
  obtain ⟨x, y, hl, hx, hy⟩ := args2 hx
  have ht := und_slice hti hd
  simp only [oCpy, getK_iff] at h
  obtain ⟨av, hav, bv, hbv, h⟩ := h
  replace h := srcK_iff h
  obtain ⟨m, cells, hsrc, h⟩ := h
  have run : ∀ (a : Act) (w : World) (r : Value) (w' : World), (Builtin.copy_ c.argTypes o.type #[a.eval x, a.eval y]).run P w = .ok r w' → (execOp a.eval o).run P w = .ok (.value r) w' := by
    intro a w r w' hr
    simp [execOp, ho, resolve, hc, hl, invoke, builtin, hr]
  rw [asSl_iff] at h
  rcases h with ⟨rfl, hk⟩ | ⟨p, off, len, cp, rfl, h⟩
  · refine ⟨_, s, hk, .pure fun ρ a w hg he hm => ⟨.int .i64 (0 : Nat), w, run a w _ _ ?_, rfl, by simp [conc]⟩⟩
    have e2 : a.eval x = .slice none 0 0 := by simpa [conc] using (od_conc hg he hx hav).symm
    obtain ⟨us, hus, hul, hlen, hf⟩ := hsrc.model (P := P) hm (od_conc hg he hy hbv)
    have hmin : Nat.min m 0 = 0 := Nat.min_zero _
    simp [Builtin.copy_, h0, run_underlying ht, e2, hlen, hmin, run_size hie, hf 0 (Nat.zero_le _) w rfl, goInt]
  · simp only [getC_iff, natK_eq, takeK_iff, areCells_iff, boolK_t, overK_iff, putB_eq] at h
    obtain ⟨cs, wr, sz, u, hs, g1, hone, rfl, hle, hk⟩ := h
    refine ⟨_, _, hk, Nat.le_refl _, fun ρ a w hg he hm hnd => ?_⟩
    obtain ⟨L, hL, e1⟩ := slice_inv (od_conc hg he hx hav)
    obtain ⟨us, hus, hul, hlen, hf⟩ := hsrc.model (P := P) hm (od_conc hg he hy hbv)
    have hmin : (Bool.rec (motive := fun _ => Nat) len m (Nat.ble m len)) = Nat.min m len := by
      cases hb : Nat.ble m len
      · have : ¬ m ≤ len := fun q => by rw [(ble_iff _ _).2 q] at hb; cases hb
        show len = Nat.min m len
        exact (Nat.min_eq_right (by omega)).symm
      · show m = Nat.min m len
        exact (Nat.min_eq_left ((ble_iff _ _).1 hb)).symm
    simp only [hmin] at g1 hone hle ⊢
    obtain ⟨w', hw', hst⟩ := store_step (P := P) hm hL hs (concs_take hus _) hle hone
    refine .value (run a w _ _ (?_ : _ = Result.ok (.int .i64 (Nat.min m len)) w')) ⟨ρ, by simp [conc], hst⟩
    have := hf (Nat.min m len) (Nat.min_le_left _ _) w rfl
    simp [Builtin.copy_, h0, run_underlying ht, e1, hlen, run_size hie, this, goInt]
    rw [show us.take (min m len * ie.size) = us.take ((Nat.min m len).mul ie.size) from rfl, hw']
    rfl

/-! ### The least, the most -/
def mmF (isMin : Bool) (n m : Int) : Int := if isMin then (if m < n then m else n) else (if n < m then m else n)
theorem mmK_iff (isMin : Bool) (l : List IV) (t : IntKind) (n : Int) (k : IV → Bool) (h : mmK isMin l t n k = true) : ∃ ms : List (IntKind × Int), l = ms.map (fun q => .int q.1 q.2) ∧ k (.int t (ms.foldl (fun a b => mmF isMin a b.2) n)) = true := by
  induction l generalizing n with
  | nil => exact ⟨[], rfl, h⟩
  | cons x r ih =>
    have h1 : asInt x (fun _ m => boolK (boolK isMin (ilt m n) (ilt n m)) (mmK isMin r t m k) (mmK isMin r t n k)) = true := h
    rw [asInt_iff] at h1
    obtain ⟨u, m, rfl, h1⟩ := h1
    have h2 : mmK isMin r t (mmF isMin n m) k = true := by
      rw [boolK_iff] at h1
      unfold mmF
      cases isMin <;> simp [boolK, ilt_eq] at h1 ⊢ <;> split <;> grind
    obtain ⟨ms, rfl, hk⟩ := ih _ h2
    exact ⟨(u, m) :: ms, rfl, hk⟩

theorem run_mm {isMin : Bool} {t : IntKind} : ∀ (ms : List (IntKind × Int)) (n : Int) (w : World), ((ms.map fun q => Value.int q.1 q.2).foldlM (if isMin then Builtin.min2 else Builtin.max2) (.int t n)).run P w = .ok (.int t (ms.foldl (fun a b => mmF isMin a b.2) n)) w
  | [], n, w => rfl
  | (u, m) :: r, n, w => by
    simp only [List.map_cons, List.foldlM_cons, List.foldl_cons, Sem.run_bind]
    have h1 : ((if isMin then Builtin.min2 else Builtin.max2) (.int t n) (.int u m)).run P w = .ok (.int t (mmF isMin n m)) w := by
      cases isMin
      · simp only [Bool.false_eq_true, if_false, Builtin.max2, mmF]
        rfl
      · simp only [if_true, Builtin.min2, mmF]
        rfl
    rw [h1]
    exact run_mm r _ w
theorem conc_ints {ρ : Rho} : ∀ {ms : List (IntKind × Int)} {vs : List Value}, concs ρ (ms.map fun q => .int q.1 q.2) = some vs → vs = ms.map fun q => .int q.1 q.2
  | [], vs, h => by simp [concs] at h; exact h.symm ▸ rfl
  | (u, m) :: r, vs, h => by
    simp only [List.map_cons, concs] at h
    cases hr : concs ρ (r.map fun q => .int q.1 q.2) with
    | none => simp [hr, conc] at h
    | some z =>
      simp [hr, conc] at h
      rw [← h, conc_ints hr]; rfl
theorem snd_mm {c : Call} {isMin : Bool} {l' : List Od} (ho : o.op = .call c) (hc : c.callee = .builtin (if isMin then .min else .max)) (hx : ods C c.args.toList = some l') (h : oMm isMin l' v s k = true) : ∃ x s', k x s' = true ∧ Snd P C o v s x s' := by
  simp only [oMm, getsK_iff] at h
  obtain ⟨l, hl, h⟩ := h
  cases l with
  | nil => cases h
  | cons x r =>
    have h1 : asInt x (fun t n => mmK isMin r t n (fun z => k z s)) = true := h
    rw [asInt_iff] at h1
    obtain ⟨t, n, rfl, h1⟩ := h1
    obtain ⟨ms, rfl, hk⟩ := mmK_iff _ _ _ _ _ h1
    refine ⟨_, s, hk, .pure fun ρ a w hg he hm => ⟨.int t (ms.foldl (fun a b => mmF isMin a b.2) n), w, ?_, rfl, by simp [conc]⟩⟩
    have hcs := ods_concs hg he hx hl
    have e := conc_ints (ms := (t, n) :: ms) hcs
    have hm2 := run_mm (P := P) (isMin := isMin) (t := t) ms n w
    have e2 : (c.args.map a.eval).toList = Value.int t n :: ms.map fun q => Value.int q.1 q.2 := by rw [Array.toList_map]; exact e
    cases isMin
    · simp only [Bool.false_eq_true, if_false] at hc hm2
      simp [execOp, ho, resolve, hc, invoke, builtin, Builtin.max_, e2, hm2]
      rw [show List.map a.eval c.args.toList = _ from e]
      simp [hm2]
    · simp only [if_true] at hc hm2
      simp [execOp, ho, resolve, hc, invoke, builtin, Builtin.min_, e2, hm2]
      rw [show List.map a.eval c.args.toList = _ from e]
      simp [hm2]

/-! ### Bytes and strings -/
theorem bytesOf_iff : ∀ (l : List IV) (k : Nat → Bool), bytesOf l k = true → ∃ bs : List UInt8, l = bs.map (fun b => .int .u8 (b.toNat : Int)) ∧ k (packL bs) = true
  | [], k, h => ⟨[], rfl, h⟩
  | x :: r, k, h => by
    have h1 : asInt x (fun t n => boolK (kindEq t .u8) (natOf .u8 n (fun b => bytesOf r (fun q => natK (Nat.add b (Nat.mul 256 q)) k))) false) = true := h
    simp only [asInt_iff, boolK_t, kindEq_iff, natOf_iff, natK_eq] at h1
    obtain ⟨t, n, rfl, rfl, m, rfl, hm, h1⟩ := h1
    obtain ⟨bs, rfl, hk⟩ := bytesOf_iff r _ h1
    have hlt : m < 256 := by simp [IntKind.max, IntKind.bits, IntKind.signed] at hm; omega
    refine ⟨UInt8.ofNat m :: bs, ?_, ?_⟩
    · simp only [List.map_cons, UInt8.toNat_ofNat']
      rw [Nat.mod_eq_of_lt (by simpa using hlt)]
    · simp only [packL, UInt8.toNat_ofNat']
      rw [Nat.mod_eq_of_lt (by simpa using hlt)]; exact hk
theorem strB_packL (bs : List UInt8) : strB bs.length (packL bs) = ⟨bs.toArray⟩ := by
  have := strB_pack ⟨bs.toArray⟩
  simpa using this
theorem conc_bytes {ρ : Rho} : ∀ {bs : List UInt8} {vs : List Value}, concs ρ (bs.map fun b => .int .u8 (b.toNat : Int)) = some vs → vs = bs.map fun b => Value.int .u8 (b.toNat : Int)
  | [], vs, h => by simp [concs] at h; exact h.symm ▸ rfl
  | b :: r, vs, h => by
    simp only [List.map_cons, concs] at h
    cases hr : concs ρ (r.map fun b => .int .u8 (b.toNat : Int)) with
    | none => simp [hr, conc] at h
    | some z =>
      simp [hr, conc] at h
      rw [← h, conc_bytes hr]; rfl
theorem fold_bytes : ∀ (bs : List UInt8) (acc : ByteArray), (bs.map fun b => (b.toNat : Int)).foldl (fun r n => r.push (UInt8.ofNat n.toNat)) acc = ⟨acc.data ++ bs.toArray⟩
  | [], acc => by simp
  | b :: r, acc => by
    simp only [List.map_cons, List.foldl_cons]
    rw [fold_bytes r]
    simp
theorem snd_b2s {src dst e : TypeId} {i j ie : TI} {x : Operand} {x' : Od} (ho : o.op = .convert src dst x) (hi : TIok P src i) (hj : TIok P dst j) (hd : i.d = .slice e) (hd2 : j.d = .str) (hie : TIok P e ie) (hd3 : ie.d = .int .u8) (hx : od C x = some x')
    (h : oB2s x' v s k = true) : ∃ x s', k x s' = true ∧ Snd P C o v s x s' := by
  simp only [oB2s, getK_iff, asSl_iff] at h
  obtain ⟨y, hy, ⟨rfl, hk⟩ | ⟨p, off, len, cp, rfl, h⟩⟩ := h
  · refine ⟨_, s, hk, .pure fun ρ a w hg he hm => ⟨.string .empty, w, ?_, rfl, ?_⟩⟩
    · have e1 : a.eval x = .slice none 0 0 := by simpa [conc] using (od_conc hg he hx hy).symm
      simp [execOp, ho, e1, run_convert_bytes_string w src dst e none 0 0 (und_slice hi hd) (und_int hie hd3) (und_str hj hd2), Conv.bytesToString]
    · simp only [conc]; congr 2
  · simp only [getC_iff, dropK_iff, takeK_iff] at h
    obtain ⟨cs, wr, sz, t, hs, h1, h2, h⟩ := h
    obtain ⟨bs, hbs, hk⟩ := bytesOf_iff _ _ h
    have hlen : bs.length = len := by
      have := congrArg List.length hbs
      simp at this h2; omega
    subst hlen
    refine ⟨_, s, hk, .pure fun ρ a w hg he hm => ⟨.string ⟨bs.toArray⟩, w, ?_, rfl, by simp [conc, strB_packL]⟩⟩
    obtain ⟨L, hL, e1⟩ := slice_inv (od_conc hg he hx hy)
    obtain ⟨us, hus, hl, hw⟩ := cells_at hm hL hs h1 h2
    rw [hbs] at hus
    have e2 := conc_bytes hus
    have hload := run_loadCells_list (P := P) w _ us hw
    rw [hl, e2] at hload
    have := run_bytesToString w ⟨L.blk, L.base + off, none⟩ bs.length (cp.of L.cap) (bs.map fun b => (b.toNat : Int)) (by rw [hload]; simp)
    simp [execOp, ho, e1, run_convert_bytes_string w src dst e _ _ _ (und_slice hi hd) (und_int hie hd3) (und_str hj hd2), this, fold_bytes]

/-! ### Rows of nothing -/
theorem snd_mkslice {t e : TypeId} {i ie : TI} {l c : Operand} {l' c' : Od} (ho : o.op = .makeSlice t l c) (hi : TIok P t i) (hd : i.d = .slice e) (hie : TIok P e ie) (hb : ie.bytes ≤ 100000) (hs0 : 0 < ie.size) (hl : od C l = some l') (hc : od C c = some c')
    (h : oMkslice ie.size ie.zero e l' c' v s k = true) : ∃ x s', k x s' = true ∧ Snd P C o v s x s' := by
  simp only [oMkslice, bndK_iff, repK_eq, newB_eq] at h
  obtain ⟨m, ⟨t1, hc1, hm1⟩, n, ⟨t2, hl1, hn1⟩, hk⟩ := h
  refine ⟨_, _, hk, by rw [St.nx_add]; omega, fun ρ a w hg he hm hnd => ?_⟩
  have e1 := int_inv (od_conc hg he hc hc1)
  have e2 := int_inv (od_conc hg he hl hl1)
  obtain ⟨fi, hfi, fs, fb, z, hzv, hzl, hzs, _⟩ := hie.info
  have hcz := lits_conc ρ hzl
  have hcs : concs ρ (times ie.zero m) = some (reps m z.cells.toList) := by rw [times_reps]; exact concs_reps hcz m
  have wr : ∀ q : Nat, q ≤ 1000000 → IntKind.i64.wrap (q : Int) = q := fun q hq => wrap_in _ _ (by rw [show IntKind.i64.min = -9223372036854775808 from rfl]; omega) (by rw [show IntKind.i64.max = 9223372036854775807 from rfl]; omega)
  have hbig : ¬ (281474976710656 < (fi.bytes : Int) * (m : Int)) := by
    rw [fb]
    have : ie.bytes * m ≤ 100000000000 := Nat.le_trans (Nat.mul_le_mul hb hm1) (Nat.le_refl _)
    rw [← Int.natCast_mul]; omega
  refine .value (x := .slice (some ⟨w.heap.size, 0, none⟩) n m) (w' := { w with heap := w.heap.push (.cells (reps m z.cells.toList).toArray e) }) ?_ ⟨_, by simp [conc, ICap.of], Step.add m hm hnd.nxt rfl ?_⟩
  case refine_2 =>
    have hrl : (reps m z.cells.toList).length = m * ie.size := by rw [reps_length]; simp [hzs]
    have := BlkRel.grown (g := w.heap.size) (cap := m) (rest := []) (t := e) (concs_mono (Rho.set_ext ⟨w.heap.size, 0, m⟩ hnd.nxt) _ _ hcs) hrl (Nat.le_refl m) (by simp)
    simpa using this
  have hzz := zeros_eq z.cells m (by omega)
  rw [hzs] at hzz
  have hlm : ¬ ((m : Int) < n) := by omega
  by_cases h0 : m * ie.size = 0
  · have : m = 0 := by rcases Nat.mul_eq_zero.1 h0 with h | h <;> omega
    subst this
    have hr : Array.range 0 = #[] := rfl
    have hn0 : n = 0 := by omega
    subst hn0
    have wr0 : IntKind.i64.wrap 0 = 0 := wr 0 (by omega)
    simp [execOp, ho, Instr.makeSlice, run_underlying (und_slice hi hd), e1, e2, Go.asInt, asIntOf, typeInfo, hfi, sizeOf, fs, reps, hr, newRow, wr0]
  · simp [execOp, ho, Instr.makeSlice, run_underlying (und_slice hi hd), e1, e2, Go.asInt, asIntOf, typeInfo, hfi, sizeOf, fs, wr m hm1, wr n (by omega), hbig, hlm, h0, zeroValue, hzv, hzs, hzz, newRow]
    intro q; exact absurd q (by omega)
end
end Go.Ev
