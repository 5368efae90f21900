/- DERIVED. The ideal machine's operations against the model's: numbers, strings, comparisons, fields, indexes. -/
import Derived.Test.YtllbfabgglneeaaGreatDoorEvOps1
set_option linter.unusedVariables false
namespace Go.Ev

/-! ### Numbers -/
theorem wrap_in (t : IntKind) (n : Int) (h1 : t.min ≤ n) (h2 : n ≤ t.max) : t.wrap n = n := by
  cases t <;> simp [IntKind.min, IntKind.max, IntKind.signed, IntKind.bits] at h1 h2 <;> simp only [IntKind.wrap, IntKind.bits, IntKind.signed] <;> simp <;> omega
theorem blt_t {a b : Nat} (h : Nat.blt a b = true) : a < b := by simp [Nat.blt] at h; omega
theorem blt_iff (a b : Nat) : Nat.blt a b = true ↔ a < b := by simp [Nat.blt]; omega
theorem fitS_eq (t : IntKind) (lim : Nat) (h : t.min = -(lim : Int)) (h' : t.max = (lim : Int) - 1) (n : Int) : fitS t lim n = t.wrap n := by
  cases n with
  | ofNat m =>
    show fit lim m (.ofNat m) (t.wrap (.ofNat m)) = _
    unfold fit
    cases hb : Nat.blt m lim with
    | true => show Int.ofNat m = _; exact (wrap_in t _ (by rw [h]; have := blt_t hb; simp only [Int.ofNat_eq_natCast]; omega) (by rw [h']; have := blt_t hb; simp only [Int.ofNat_eq_natCast]; omega)).symm
    | false => rfl
  | negSucc m =>
    show fit lim m (.negSucc m) (t.wrap (.negSucc m)) = _
    unfold fit
    cases hb : Nat.blt m lim with
    | true => show Int.negSucc m = _; exact (wrap_in t _ (by rw [h]; have := blt_t hb; omega) (by rw [h']; have := blt_t hb; omega)).symm
    | false => rfl
theorem fitU_eq (t : IntKind) (lim : Nat) (h : t.min = 0) (h' : t.max = (lim : Int) - 1) (n : Int) : fitU t lim n = t.wrap n := by
  cases n with
  | ofNat m =>
    show fit lim m (.ofNat m) (t.wrap (.ofNat m)) = _
    unfold fit
    cases hb : Nat.blt m lim with
    | true => show Int.ofNat m = _; exact (wrap_in t _ (by rw [h]; simp) (by rw [h']; have := blt_t hb; simp only [Int.ofNat_eq_natCast]; omega)).symm
    | false => rfl
  | negSucc m => rfl
@[simp] theorem wrapK_eq (t : IntKind) (n : Int) : wrapK t n = t.wrap n := by
  cases t
  · exact fitS_eq .i8 128 rfl rfl n
  · exact fitS_eq .i16 32768 rfl rfl n
  · exact fitS_eq .i32 2147483648 rfl rfl n
  · exact fitS_eq .i64 9223372036854775808 rfl rfl n
  · exact fitU_eq .u8 256 rfl rfl n
  · exact fitU_eq .u16 65536 rfl rfl n
  · exact fitU_eq .u32 4294967296 rfl rfl n
  · exact fitU_eq .u64 18446744073709551616 rfl rfl n
@[simp] theorem retI_eq (t : IntKind) (n : Int) (k) : retI t n k = k (.int t (t.wrap n)) := by simp [retI]
theorem ieq_t (a b : Int) : ieq a b = true ↔ a = b := by
  cases a <;> cases b
  · show Nat.beq _ _ = true ↔ _; rw [Nat.beq_eq]; simp only [Int.ofNat_eq_natCast]; omega
  · simp [ieq]
  · simp [ieq]
  · show Nat.beq _ _ = true ↔ _; rw [Nat.beq_eq]; omega
theorem ilt_t (a b : Int) : ilt a b = true ↔ a < b := by
  cases a <;> cases b
  · show Nat.blt _ _ = true ↔ _; rw [blt_iff]; simp only [Int.ofNat_eq_natCast]; omega
  · simp [ilt]; omega
  · simp [ilt]; omega
  · show Nat.blt _ _ = true ↔ _; rw [blt_iff]; omega
theorem ieq_eq (a b : Int) : ieq a b = decide (a = b) := by rw [Bool.eq_iff_iff, ieq_t]; simp
theorem ilt_eq (a b : Int) : ilt a b = decide (a < b) := by rw [Bool.eq_iff_iff, ilt_t]; simp
theorem retB_eq (b : Bool) (k) : retB b k = k (.bool b) := by cases b <;> rfl
theorem natOf_iff (t : IntKind) (a : Int) (k) : natOf t a k = true ↔ ∃ m : Nat, a = (m : Int) ∧ (m : Int) ≤ t.max ∧ k m = true := by
  cases a with
  | ofNat m =>
    show boolK (Nat.blt m (IntKind.rec (motive := fun _ => Nat) 128 32768 2147483648 9223372036854775808 256 65536 4294967296 18446744073709551616 t)) (k m) false = true ↔ _
    have hl : ((IntKind.rec (motive := fun _ => Nat) 128 32768 2147483648 9223372036854775808 256 65536 4294967296 18446744073709551616 t : Nat) : Int) = t.max + 1 := by cases t <;> rfl
    rw [boolK_t, blt_iff]
    constructor
    · rintro ⟨h1, h2⟩; exact ⟨m, rfl, by omega, h2⟩
    · rintro ⟨m', e, h1, h2⟩
      have : m = m' := by simp only [Int.ofNat_eq_natCast] at e; omega
      subst this; exact ⟨by omega, h2⟩
  | negSucc m => simp [natOf]

theorem max_lt (t : IntKind) : t.max < 2 ^ t.bits := by cases t <;> decide
theorem ofInt_nat (n m : Nat) (h : m < 2 ^ n) : (BitVec.ofInt n (m : Int)).toNat = m := by
  rw [BitVec.ofInt_natCast, BitVec.toNat_ofNat, Nat.mod_eq_of_lt h]
theorem max_pow (t : IntKind) : ∃ e : Nat, t.max = 2 ^ e - 1 ∧ e ≤ t.bits := by
  cases t
  · exact ⟨7, rfl, by decide⟩
  · exact ⟨15, rfl, by decide⟩
  · exact ⟨31, rfl, by decide⟩
  · exact ⟨63, rfl, by decide⟩
  · exact ⟨8, rfl, by decide⟩
  · exact ⟨16, rfl, by decide⟩
  · exact ⟨32, rfl, by decide⟩
  · exact ⟨64, rfl, by decide⟩
theorem wrap_nat (t : IntKind) (m : Nat) (h : (m : Int) ≤ t.max) : t.wrap (m : Int) = m := by
  refine wrap_in t _ ?_ h
  have : t.min ≤ 0 := by cases t <;> decide
  omega
theorem bits_of (t : IntKind) (x y : Nat) (hx : (x : Int) ≤ t.max) (hy : (y : Int) ≤ t.max) : ((x &&& y : Nat) : Int) ≤ t.max ∧ ((x ||| y : Nat) : Int) ≤ t.max ∧ ((x ^^^ y : Nat) : Int) ≤ t.max := by
  obtain ⟨e, he, _⟩ := max_pow t
  have hp : ((2 ^ e : Nat) : Int) = 2 ^ e := by simp
  have h1 : x < 2 ^ e := by omega
  have h2 : y < 2 ^ e := by omega
  have := Nat.and_lt_two_pow x h2
  have := Nat.or_lt_two_pow h1 h2
  have := Nat.xor_lt_two_pow h1 h2
  omega

/-- A value that hangs on no memory. -/
def Same (x : IV) (u : Value) : Prop := ∀ ρ, conc ρ x = some u
theorem Same.int (t : IntKind) (n : Int) : Same (.int t n) (.int t n) := fun ρ => by simp [conc]
theorem Same.bool (b : Bool) : Same (.bool b) (.bool b) := fun ρ => by simp [conc]
theorem Same.str (l n : Nat) : Same (.str l n) (.string (strB l n)) := fun ρ => by simp [conc]

section
variable {P : Program}
theorem natOf_both {t : IntKind} {a b : Int} {k : Nat → Nat → Bool} (h : natOf t a (fun x => natOf t b (fun y => k x y)) = true) :
    ∃ x y : Nat, a = x ∧ b = y ∧ (x : Int) ≤ t.max ∧ (y : Int) ≤ t.max ∧ k x y = true := by
  obtain ⟨x, hx, hx', h⟩ := (natOf_iff _ _ _).1 h
  obtain ⟨y, hy, hy', h⟩ := (natOf_iff _ _ _).1 h
  exact ⟨x, y, hx, hy, hx', hy', h⟩
theorem lt_bits {t : IntKind} {x : Nat} (h : (x : Int) ≤ t.max) : x < 2 ^ t.bits := by
  have := max_lt t
  have hp : ((2 ^ t.bits : Nat) : Int) = 2 ^ t.bits := by simp
  omega
theorem ibin_sound {op : BinOp} {t : IntKind} {m n : Int} {k : IV → Bool} (ty : TypeId) (hs : isSh op = false) (h : ibinK op t m n k = true) :
    ∃ r u, k r = true ∧ Same r u ∧ ∀ w, (Go.binOp op ty (.int t m) (.int t n)).run P w = .ok u w := by
  cases op
  case add => exact ⟨.int t (t.wrap (m + n)), _, by simpa [ibinK, iAdd] using h, .int _ _, fun w => by simp [Go.binOp, Op.intArith]⟩
  case sub => exact ⟨.int t (t.wrap (m - n)), _, by have h' : retI t (Int.sub m n) k = true := h; rw [retI_eq] at h'; exact h', .int _ _, fun w => by simp [Go.binOp, Op.intArith]⟩
  case mul => exact ⟨.int t (t.wrap (m * n)), _, by simpa [ibinK, iMul] using h, .int _ _, fun w => by simp [Go.binOp, Op.intArith]⟩
  case quo =>
    have h' : boolK (ieq n 0) false (retI t (Int.tdiv m n) k) = true := h
    rw [boolK_f, ieq_eq] at h'
    have hn : n ≠ 0 := by simpa using h'.1
    exact ⟨.int t (t.wrap (m.tdiv n)), _, by simpa using h'.2, .int _ _, fun w => by simp [Go.binOp, Op.intDiv, hn]⟩
  case rem =>
    have h' : boolK (ieq n 0) false (boolK (ieq n 1) (k (.int t 0)) (intF (Int.tmod m n) (fun r => k (.int t r)))) = true := h
    rw [boolK_f, boolK_iff, ieq_eq, ieq_eq] at h'
    have hn : n ≠ 0 := by simpa using h'.1
    rcases h'.2 with ⟨h1, h2⟩ | ⟨_, h2⟩
    · have : n = 1 := by simpa using h1
      subst this
      exact ⟨.int t 0, _, h2, .int _ _, fun w => by simp [Go.binOp, Op.intDiv]⟩
    · exact ⟨.int t (m.tmod n), _, by simpa using h2, .int _ _, fun w => by simp [Go.binOp, Op.intDiv, hn]⟩
  case and =>
    obtain ⟨x, y, rfl, rfl, hx, hy, h⟩ := natOf_both (k := fun x y => natK (Nat.land x y) (fun r => k (.int t (.ofNat r)))) h
    refine ⟨.int t ((x &&& y : Nat) : Int), _, by simpa using h, .int _ _, fun w => ?_⟩
    simp [Go.binOp, Op.intBits]
    rw [Nat.mod_eq_of_lt (lt_bits hx), Nat.mod_eq_of_lt (lt_bits hy), wrap_nat _ _ (bits_of t x y hx hy).1]
  case or =>
    obtain ⟨x, y, rfl, rfl, hx, hy, h⟩ := natOf_both (k := fun x y => natK (Nat.lor x y) (fun r => k (.int t (.ofNat r)))) h
    refine ⟨.int t ((x ||| y : Nat) : Int), _, by simpa using h, .int _ _, fun w => ?_⟩
    simp [Go.binOp, Op.intBits]
    rw [Nat.mod_eq_of_lt (lt_bits hx), Nat.mod_eq_of_lt (lt_bits hy), wrap_nat _ _ (bits_of t x y hx hy).2.1]
  case xor =>
    obtain ⟨x, y, rfl, rfl, hx, hy, h⟩ := natOf_both (k := fun x y => natK (Nat.xor x y) (fun r => k (.int t (.ofNat r)))) h
    refine ⟨.int t ((x ^^^ y : Nat) : Int), _, by simpa using h, .int _ _, fun w => ?_⟩
    simp [Go.binOp, Op.intBits]
    rw [Nat.mod_eq_of_lt (lt_bits hx), Nat.mod_eq_of_lt (lt_bits hy), wrap_nat _ _ (bits_of t x y hx hy).2.2]
  case shl => simp [isSh] at hs
  case shr => simp [isSh] at hs
  case andNot => simp [ibinK, iBad] at h
  case eql => exact ⟨.bool (ieq m n), _, by simpa [ibinK, iEql, retB_eq] using h, .bool _, fun w => by simp [Go.binOp, Op.intCmp, ieq_eq]; rfl⟩
  case neq =>
    have h' : boolK (ieq m n) (k (.bool false)) (k (.bool true)) = true := h
    refine ⟨.bool (!ieq m n), _, ?_, .bool _, fun w => by simp [Go.binOp, Op.intCmp, ieq_eq]; rfl⟩
    rcases (boolK_iff _ _ _).1 h' with ⟨e, h⟩ | ⟨e, h⟩ <;> simpa [e] using h
  case lss => exact ⟨.bool (ilt m n), _, by simpa [ibinK, iLss, retB_eq] using h, .bool _, fun w => by simp [Go.binOp, Op.intCmp, ilt_eq]⟩
  case leq =>
    have h' : boolK (ilt n m) (k (.bool false)) (k (.bool true)) = true := h
    refine ⟨.bool (!ilt n m), _, ?_, .bool _, fun w => by simp [Go.binOp, Op.intCmp, ilt_eq]; rw [Bool.eq_iff_iff]; simp⟩
    rcases (boolK_iff _ _ _).1 h' with ⟨e, h⟩ | ⟨e, h⟩ <;> simpa [e] using h
  case gtr => exact ⟨.bool (ilt n m), _, by simpa [ibinK, iGtr, retB_eq] using h, .bool _, fun w => by simp [Go.binOp, Op.intCmp, ilt_eq]⟩
  case geq =>
    have h' : boolK (ilt m n) (k (.bool false)) (k (.bool true)) = true := h
    refine ⟨.bool (!ilt m n), _, ?_, .bool _, fun w => by simp [Go.binOp, Op.intCmp, ilt_eq]; rw [Bool.eq_iff_iff]; simp⟩
    rcases (boolK_iff _ _ _).1 h' with ⟨e, h⟩ | ⟨e, h⟩ <;> simpa [e] using h
theorem ble_iff (a b : Nat) : Nat.ble a b = true ↔ a ≤ b := by simp
theorem shift_sound {op : BinOp} {t u : IntKind} {m n : Int} {k : IV → Bool} (ty : TypeId) (hs : isSh op = true) (h : ibinK op t m n k = true) :
    ∃ r x, k r = true ∧ Same r x ∧ ∀ w, (Go.binOp op ty (.int t m) (.int u n)).run P w = .ok x w := by
  cases op <;> simp [isSh] at hs
  case shl =>
    cases n with
    | negSucc y => simp [ibinK, iShl] at h
    | ofNat y =>
      have h' : boolK (Nat.ble y 64) (boolK (Nat.ble y t.bits) (retI t (Int.mul m (.ofNat (Nat.pow 2 y))) k) false) false = true := h
      rw [boolK_t, boolK_t, ble_iff, ble_iff, retI_eq] at h'
      obtain ⟨_, hy, h⟩ := h'
      refine ⟨_, _, h, .int _ _, fun w => ?_⟩
      have : min y t.bits = y := by omega
      have hp : (m * ((2 : Int) ^ y)) = Int.mul m (Int.ofNat (Nat.pow 2 y)) := by
        show m * (2 : Int) ^ y = m * (((2 ^ y : Nat)) : Int); simp
      have h0 : ¬ ((y : Int) < 0) := by omega
      simp [Go.binOp, Op.shift, this, h0]
  case shr =>
    cases n with
    | negSucc y => simp [ibinK, iShr] at h
    | ofNat y =>
      cases m with
      | negSucc x => simp [ibinK, iShr] at h
      | ofNat x =>
        have h' : boolK (Nat.ble y t.bits) (natK (Nat.div x (Nat.pow 2 y)) (fun r => k (.int t (.ofNat r)))) false = true := h
        rw [boolK_t, ble_iff, natK_eq] at h'
        obtain ⟨hy, h⟩ := h'
        refine ⟨_, _, h, .int _ _, fun w => ?_⟩
        have : min y t.bits = y := by omega
        have hp : Int.fdiv (x : Int) ((2 : Int) ^ y) = ((x / 2 ^ y : Nat) : Int) := by
          rw [show ((2 : Int) ^ y) = (((2 ^ y : Nat)) : Int) by simp, Int.ofNat_fdiv]
        have h0 : ¬ ((y : Int) < 0) := by omega
        simp [Go.binOp, Op.shift, this, h0]
        exact hp
end

section
variable {P : Program} {C : Ctx} {o : Oper} {v : Env} {s : St} {k : KO}
theorem int_inv {ρ : Rho} {t : IntKind} {n : Int} {u : Value} (h : conc ρ (.int t n) = some u) : u = .int t n := by simpa [conc] using h.symm
theorem guard_int (op : BinOp) (ty : TypeId) (x y : Operand) (t u : IntKind) (m n : Int) (w : World) : (eqGuard op ty x y (.int t m) (.int u n)).run P w = .ok () w := by
  unfold eqGuard; split <;> rfl
theorem snd_ib {op : BinOp} {ty ty' : TypeId} {x y : Operand} {x' y' : Od} (ho : o.op = .binOp op ty x y ty') (hx : od C x = some x') (hy : od C y = some y') (h : oIb op x' y' v s k = true) : ∃ x s', k x s' = true ∧ Snd P C o v s x s' := by
  simp only [oIb, getK_iff, asInt_iff] at h
  obtain ⟨a1, ha1, t, m, rfl, a2, ha2, u, n, rfl, h⟩ := h
  rw [boolK_iff, boolK_t, kindEq_iff] at h
  have key : ∃ r x, k r s = true ∧ Same r x ∧ ∀ w, (Go.binOp op ty (.int t m) (.int u n)).run P w = .ok x w := by
    rcases h with ⟨h1, h2⟩ | ⟨h1, rfl, h2⟩
    · exact shift_sound (k := fun r => k r s) ty h1 h2
    · exact ibin_sound (k := fun r => k r s) ty h1 h2
  obtain ⟨r, z, hk, hs, hr⟩ := key
  refine ⟨r, s, hk, .pure fun ρ a w hg he hm => ⟨z, w, ?_, rfl, hs ρ⟩⟩
  simp [execOp, ho, int_inv (od_conc hg he hx ha1), int_inv (od_conc hg he hy ha2), guard_int, hr]

theorem and_one (m : Int) : bits .and .i64 m 1 = 0 ∨ bits .and .i64 m 1 = 1 := by
  have h : ((BitVec.ofInt 64 m) &&& (BitVec.ofInt 64 1)).toNat % 2 ^ 64 = (BitVec.ofInt 64 m).toNat % 2 := by
    rw [BitVec.toNat_and]
    have : (BitVec.ofInt 64 1).toNat = 1 := by decide
    rw [this, Nat.and_one_is_mod]; omega
  have h2 : bits .and .i64 m 1 = IntKind.i64.wrap (((BitVec.ofInt 64 m).toNat % 2 : Nat) : Int) := by
    have h3 : ((BitVec.ofInt 64 m) &&& (BitVec.ofInt 64 1)).toNat = (BitVec.ofInt 64 m).toNat % 2 := by
      have := ((BitVec.ofInt 64 m) &&& (BitVec.ofInt 64 1)).isLt; omega
    rw [← h3]; rfl
  rw [h2]
  rcases Nat.mod_two_eq_zero_or_one (BitVec.ofInt 64 m).toNat with e | e <;> rw [e]
  · exact .inl (by decide)
  · exact .inr (by decide)
theorem snd_and1 {ty ty' : TypeId} {x y : Operand} {x' : Od} {op : BinOp} (ho : o.op = .binOp op ty x y ty') (hand : isAnd1 op y = true) (hx : od C x = some x') (h : oAnd1 x' v s k = true) : ∃ x s', k x s' = true ∧ Snd P C o v s x s' := by
  simp only [oAnd1, getK_iff, asInt_iff, boolK_t, kindEq_iff] at h
  obtain ⟨a1, ha1, t, m, rfl, rfl, h0, h1⟩ := h
  unfold isAnd1 at hand
  split at hand
  case h_2 => cases hand
  have hr : ∀ w, (Go.binOp .and ty (.int .i64 m) (.int .i64 1)).run P w = .ok (.int .i64 (bits .and .i64 m 1)) w := fun w => by
    rw [binOp_and, intBits_and]; rfl
  refine ⟨.int .i64 (bits .and .i64 m 1), s, ?_, .pure fun ρ a w hg he hm => ⟨.int .i64 (bits .and .i64 m 1), w, ?_, rfl, by simp [conc]⟩⟩
  · rcases and_one m with e | e <;> rw [e]
    · exact h0
    · exact h1
  · have e1 := int_inv (od_conc hg he hx ha1)
    have e2 : a.eval (.const (.int .i64 1)) = .int .i64 1 := rfl
    simp [execOp, ho, e1, e2, guard_int, hr]

theorem snd_neg {ty : TypeId} {x : Operand} {x' : Od} (ho : o.op = .unOp .neg ty x) (hx : od C x = some x') (h : oNeg x' v s k = true) : ∃ x s', k x s' = true ∧ Snd P C o v s x s' := by
  simp only [oNeg, getK_iff, asInt_iff, retI_eq] at h
  obtain ⟨a1, ha1, t, m, rfl, h⟩ := h
  refine ⟨_, s, h, .pure fun ρ a w hg he hm => ⟨.int t (t.wrap (Int.sub 0 m)), w, ?_, rfl, Same.int _ _ ρ⟩⟩
  simp [execOp, ho, int_inv (od_conc hg he hx ha1), Op.unary, Op.intArith, -Int.zero_sub]
  rfl
theorem snd_not {ty : TypeId} {x : Operand} {x' : Od} (ho : o.op = .unOp .not ty x) (hx : od C x = some x') (h : oNot x' v s k = true) : ∃ x s', k x s' = true ∧ Snd P C o v s x s' := by
  simp only [oNot, getK_iff, asBool_iff] at h
  obtain ⟨a1, ha1, b, rfl, h⟩ := h
  have hk : k (.bool (!b)) s = true := by rcases (boolK_iff _ _ _).1 h with ⟨rfl, h⟩ | ⟨rfl, h⟩ <;> exact h
  refine ⟨_, s, hk, .pure fun ρ a w hg he hm => ⟨.bool (!b), w, ?_, rfl, by simp [conc]⟩⟩
  have : a.eval x = .bool b := by simpa [conc] using (od_conc hg he hx ha1).symm
  simp [execOp, ho, this, Op.unary]
theorem snd_conv {src dst : TypeId} {i j : TI} {t l : IntKind} {x : Operand} {x' : Od} (ho : o.op = .convert src dst x) (hi : TIok P src i) (hj : TIok P dst j) (hj' : j.d = .int t) (hx : od C x = some x') (h : oConv t x' v s k = true) : ∃ x s', k x s' = true ∧ Snd P C o v s x s' := by
  simp only [oConv, getK_iff, asInt_iff, retI_eq] at h
  obtain ⟨a1, ha1, u, m, rfl, h⟩ := h
  refine ⟨_, s, h, .pure fun ρ a w hg he hm => ⟨.int t (t.wrap m), w, ?_, rfl, by simp [conc]⟩⟩
  obtain ⟨d1, hd1, _⟩ := run_und hi w
  obtain ⟨d2, hd2, hok⟩ := run_und hj w
  have : d2 = .int t := by cases d2 <;> simp [D.ok, hj'] at hok; rw [hok]
  subst this
  simp [execOp, ho, int_inv (od_conc hg he hx ha1), convert, hd1, hd2, Conv.intToInt]
theorem snd_mkif {t : TypeId} {i : TI} {x : Operand} {x' : Od} (ho : o.op = .makeInterface t x) (hi : TIok P t i) (hd : i.d ≠ .iface) (hx : od C x = some x') (h : oMkif t x' v s k = true) : ∃ x s', k x s' = true ∧ Snd P C o v s x s' := by
  simp only [oMkif, getK_iff] at h
  obtain ⟨a1, ha1, h⟩ := h
  refine ⟨_, s, h, .pure fun ρ a w hg he hm => ⟨.iface t (a.eval x), w, ?_, rfl, by simp [conc, od_conc hg he hx ha1]⟩⟩
  obtain ⟨d1, hd1, hok⟩ := run_und hi w
  have : ∀ ms, d1 ≠ .interface ms := fun ms e => by subst e; cases hdd : i.d <;> simp [D.ok, hdd] at hok; exact hd hdd
  simp only [execOp, ho, Instr.makeInterface, Sem.run_bind, hd1, Result.andThen_ok]
  cases d1 <;> first | exact absurd rfl (this _) | simp
theorem snd_mkfn {f : FuncId} {x y : Array Operand} {x' y' : List Od} (ho : o.op = .makeFunc (.func f) x y) (hx : ods C x.toList = some x') (hy : ods C y.toList = some y') (h : oMkfn f x' y' v s k = true) : ∃ x s', k x s' = true ∧ Snd P C o v s x s' := by
  simp only [oMkfn, getsK_iff] at h
  obtain ⟨a1, ha1, a2, ha2, h⟩ := h
  refine ⟨_, s, h, .pure fun ρ a w hg he hm => ⟨.func (.func f) (x.map a.eval) (y.map a.eval), w, by simp [execOp, ho, Instr.makeFunc], rfl, ?_⟩⟩
  simp [conc, ods_concs hg he hx ha1, ods_concs hg he hy ha2]
  constructor <;> (apply Array.ext'; simp)
theorem snd_extr {j : Nat} {x : Operand} {x' : Od} (ho : o.op = .extract x j) (hx : od C x = some x') (h : oExtr j x' v s k = true) : ∃ x s', k x s' = true ∧ Snd P C o v s x s' := by
  simp only [oExtr, getK_iff, asTup_iff, nthK_iff] at h
  obtain ⟨a1, ha1, l, rfl, z, hz, h⟩ := h
  refine ⟨z, s, h, .pure fun ρ a w hg he hm => ?_⟩
  have hc := od_conc hg he hx ha1
  simp only [conc, Option.map_eq_some_iff] at hc
  obtain ⟨us, hus, e⟩ := hc
  obtain ⟨u, hu, hzu⟩ := ((concs_iff _ _ _).1 hus).2 j z hz
  exact ⟨u, w, by simp [execOp, ho, ← e, Instr.extract, hu], rfl, hzu⟩
end
end Go.Ev
