/- DERIVED. The ideal machine's operations against the model's: strings, fields, indexes, comparisons, literals. -/
import Derived.Test.YtllbfabgglneeaaGreatDoorEvStr
import Derived.Laws.Strings
set_option linter.unusedVariables false
namespace Go.Ev
section
variable {P : Program} {C : Ctx} {o : Oper} {v : Env} {s : St} {k : KO}

theorem str_inv {ρ : Rho} {l n : Nat} {u : Value} (h : conc ρ (.str l n) = some u) : u = .string (strB l n) := by simpa [conc] using h.symm
theorem guard_str (op : BinOp) (ty : TypeId) (x y : Operand) (a b : ByteArray) (w : World) : (eqGuard op ty x y (.string a) (.string b)).run P w = .ok () w := by
  unfold eqGuard; split <;> rfl
theorem list_beq (a b : ByteArray) : (a.toList == b.toList) = decide (a = b) := by
  rw [ByteArray.toList_eq, ByteArray.toList_eq, Bool.eq_iff_iff]; simp
  exact ⟨fun h => bytes_ext (by rw [h]), fun h => by rw [h]⟩
theorem seqB_eq (l n l' n' : Nat) : seqB l n l' n' = decide (strB l n = strB l' n') := by rw [Bool.eq_iff_iff, seqB_iff]; simp
theorem sbin_sound {op : BinOp} {l n l' n' : Nat} {k : IV → Bool} (ty : TypeId) (h : sbinK op l n l' n' k = true) :
    ∃ r u, k r = true ∧ Same r u ∧ ∀ w, (Go.binOp op ty (.string (strB l n)) (.string (strB l' n'))).run P w = .ok u w := by
  cases op
  case add =>
    have h' : boolK (Nat.blt (Nat.add l l') 9223372036854775808) (retS (Nat.add l l') (Nat.add (Nat.mod n (p8 l)) (Nat.mul n' (p8 l))) k) false = true := h
    rw [boolK_t, blt_iff] at h'
    obtain ⟨h1, h2⟩ := h'
    simp only [retS, natK_eq] at h2
    refine ⟨_, _, h2, .str _ _, fun w => ?_⟩
    have h3 : ¬ (((l + l' : Nat) : Int) > IntKind.i64.max) := by
      have : IntKind.i64.max = 9223372036854775807 := rfl
      have : l + l' < 9223372036854775808 := h1
      omega
    simp only [Go.binOp, Op.stringOp, strB_size, h3, if_false, Sem.run_pure]
    rw [strB_append]; rfl
  case eql => exact ⟨.bool (seqB l n l' n'), _, by simpa [sbinK, sEql, retB_eq] using h, .bool _, fun w => by simp only [Go.binOp, Op.stringOp, list_beq, seqB_eq]; rfl⟩
  case neq =>
    have h' : boolK (seqB l n l' n') (k (.bool false)) (k (.bool true)) = true := h
    refine ⟨.bool (!seqB l n l' n'), _, ?_, .bool _, fun w => by simp only [Go.binOp, Op.stringOp, list_beq, seqB_eq]; rfl⟩
    rcases (boolK_iff _ _ _).1 h' with ⟨e, h⟩ | ⟨e, h⟩ <;> simpa [e] using h
  all_goals (simp [sbinK, sBad] at h)
theorem snd_sb {op : BinOp} {ty ty' : TypeId} {x y : Operand} {x' y' : Od} (ho : o.op = .binOp op ty x y ty') (hx : od C x = some x') (hy : od C y = some y') (h : oSb op x' y' v s k = true) : ∃ x s', k x s' = true ∧ Snd P C o v s x s' := by
  simp only [oSb, getK_iff, asStr_iff] at h
  obtain ⟨a1, ha1, l, n, rfl, a2, ha2, l', n', rfl, h⟩ := h
  obtain ⟨r, z, hk, hs, hr⟩ := sbin_sound (P := P) (k := fun r => k r s) ty h
  refine ⟨r, s, hk, .pure fun ρ a w hg he hm => ⟨z, w, ?_, rfl, hs ρ⟩⟩
  simp [execOp, ho, str_inv (od_conc hg he hx ha1), str_inv (od_conc hg he hy ha2), guard_str, hr]

/-! ### Fields -/
theorem field_of {t : TypeId} {f : Nat} {off : Nat} {j : TI} (hC : ∀ t i, C.ty t = some i → TIok P t i) (h : fieldOf C t f = some (off, j)) :
    ∃ fs fl, P.underlying t = some (.struct fs) ∧ fs[f]? = some fl ∧ fl.offset = off ∧ TIok P fl.type j := by
  unfold fieldOf at h
  split at h
  · rename_i i hi
    split at h
    · rename_i gs hd
      split at h
      · rename_i o' u hg
        split at h
        · rename_i j' hj
          simp at h; obtain ⟨rfl, rfl⟩ := h
          obtain ⟨d, hd1, hok⟩ := (hC t i hi).und
          rw [hd] at hok
          cases d <;> simp [D.ok] at hok
          rename_i fs
          subst hok
          rw [List.getElem?_map] at hg
          cases hf : fs.toList[f]? with
          | none => simp [hf] at hg
          | some fl =>
            simp [hf] at hg
            exact ⟨fs, fl, hd1, by simpa using hf, hg.1, by rw [hg.2]; exact hC _ _ hj⟩
        · cases h
      · cases h
    · cases h
  · cases h
theorem snd_faddr {t : TypeId} {f off : Nat} {j : TI} {x : Operand} {x' : Od} (hC : ∀ t i, C.ty t = some i → TIok P t i) (ho : o.op = .fieldAddr t x f) (hf : fieldOf C t f = some (off, j)) (hj : 0 < j.size) (hx : od C x = some x') (h : oFaddr off x' v s k = true) : ∃ x s', k x s' = true ∧ Snd P C o v s x s' := by
  simp only [oFaddr, getK_iff, asPtr_iff, natK_eq] at h
  obtain ⟨z, hz, p, b, rfl, h⟩ := h
  refine ⟨_, s, h, .pure fun ρ a w hg he hm => ?_⟩
  obtain ⟨L, hL, e⟩ := ptr_inv (od_conc hg he hx hz)
  obtain ⟨fs, fl, hu, hfl, hoff, hti⟩ := field_of hC hf
  refine ⟨.pointer (some ⟨L.blk, L.base + (b + off), none⟩), w, ?_, rfl, by simp [conc, hL]⟩
  have h0 : ¬ j.size = 0 := by omega
  simp [execOp, ho, Instr.fieldAt, run_underlying hu, hfl, e, Instr.sureAddr, fieldPlace, run_size hti, h0, Addr.add_mk, hoff, Nat.add_assoc]
theorem agg_inv {ρ : Rho} {l : List IV} {u : Value} (h : conc ρ (.agg l) = some u) : ∃ us, concs ρ l = some us ∧ u = .agg us.toArray := by
  simp only [conc, Option.map_eq_some_iff] at h
  obtain ⟨us, h1, h2⟩ := h; exact ⟨us, h1, h2.symm⟩
theorem run_part1 {t : TypeId} {i : TI} (hi : TIok P t i) (ha : i.d.agg = false) {us : List Value} {off : Nat} {u : Value} (h : us[off]? = some u) (w : World) : (part t us.toArray off).run P w = .ok u w := by
  simp [part, run_agg hi, ha, h]
theorem run_partN {t : TypeId} {i : TI} (hi : TIok P t i) (ha : i.d.agg = true) (us : List Value) (off : Nat) (w : World) : (part t us.toArray off).run P w = .ok (.agg ((us.drop off).take i.size).toArray) w := by
  simp only [part, Sem.run_bind, run_agg hi, ha, Result.andThen_ok, if_true, run_size hi, Sem.run_pure]
  congr 2
  apply Array.ext'
  simp [List.extract_eq_take_drop]
theorem snd_fld1 {t : TypeId} {f off : Nat} {j : TI} {x : Operand} {x' : Od} (hC : ∀ t i, C.ty t = some i → TIok P t i) (ho : o.op = .field t x f) (hf : fieldOf C t f = some (off, j)) (ha : j.d.agg = false) (hx : od C x = some x') (h : oFld1 off x' v s k = true) : ∃ x s', k x s' = true ∧ Snd P C o v s x s' := by
  simp only [oFld1, getK_iff, asAgg_iff, nthK_iff] at h
  obtain ⟨z, hz, l, rfl, y, hy, h⟩ := h
  refine ⟨_, s, h, .pure fun ρ a w hg he hm => ?_⟩
  obtain ⟨us, hus, e⟩ := agg_inv (od_conc hg he hx hz)
  obtain ⟨fs, fl, hu, hfl, hoff, hti⟩ := field_of hC hf
  obtain ⟨u, hu1, hu2⟩ := ((concs_iff _ _ _).1 hus).2 off y hy
  exact ⟨u, w, by simp [execOp, ho, Instr.field, run_underlying hu, hfl, e, Go.asAgg, hoff, run_part1 hti ha hu1], rfl, hu2⟩
theorem snd_fldN {t : TypeId} {f off : Nat} {j : TI} {x : Operand} {x' : Od} (hC : ∀ t i, C.ty t = some i → TIok P t i) (ho : o.op = .field t x f) (hf : fieldOf C t f = some (off, j)) (ha : j.d.agg = true) (hx : od C x = some x') (h : oFldN off j.size x' v s k = true) : ∃ x s', k x s' = true ∧ Snd P C o v s x s' := by
  simp only [oFldN, getK_iff, asAgg_iff, dropK_iff, takeK_iff] at h
  obtain ⟨z, hz, l, rfl, h1, h2, h⟩ := h
  refine ⟨_, s, h, .pure fun ρ a w hg he hm => ?_⟩
  obtain ⟨us, hus, e⟩ := agg_inv (od_conc hg he hx hz)
  obtain ⟨fs, fl, hu, hfl, hoff, hti⟩ := field_of hC hf
  exact ⟨.agg ((us.drop off).take j.size).toArray, w, by simp [execOp, ho, Instr.field, run_underlying hu, hfl, e, Go.asAgg, hoff, run_partN hti ha], rfl, by simp [conc, concs_take (concs_drop hus off) j.size]⟩

/-! ### Indexes -/
theorem ixK_iff (v : Env) (i : Od) (n : Nat) (k : Nat → Bool) : ixK v i n k = true ↔ ∃ t, ∃ m : Nat, i.den v = some (.int t m) ∧ m < n ∧ k m = true := by
  simp only [ixK, getK_iff, asInt_iff]
  constructor
  · rintro ⟨y, hy, t, j, rfl, h⟩
    cases j with
    | negSucc m => simp at h
    | ofNat m =>
      have h' : boolK (Nat.blt m n) (k m) false = true := h
      rw [boolK_t, blt_iff] at h'
      exact ⟨t, m, hy, h'.1, h'.2⟩
  · rintro ⟨t, m, hy, h1, h2⟩
    refine ⟨_, hy, t, _, rfl, ?_⟩
    show boolK (Nat.blt m n) (k m) false = true
    rw [boolK_t, blt_iff]; exact ⟨h1, h2⟩
theorem slice_inv {ρ : Rho} {p : P2} {off len : Nat} {c : ICap} {u : Value} (h : conc ρ (.sl p off len c) = some u) : ∃ L, ρ p = some L ∧ u = .slice (some ⟨L.blk, L.base + off, none⟩) len (c.of L.cap) := by
  simp only [conc, Option.map_eq_some_iff] at h
  obtain ⟨L, hL, e⟩ := h; exact ⟨L, hL, e.symm⟩
theorem und_array {t e : TypeId} {n : Nat} {i : TI} (hi : TIok P t i) (hd : i.d = .array n e) : P.underlying t = some (.array n e) := by
  obtain ⟨d, h1, hok⟩ := hi.und
  rw [hd] at hok; cases d <;> simp [D.ok] at hok
  rw [h1, hok.1, hok.2]
theorem und_slice {t e : TypeId} {i : TI} (hi : TIok P t i) (hd : i.d = .slice e) : P.underlying t = some (.slice e) := by
  obtain ⟨d, h1, hok⟩ := hi.und
  rw [hd] at hok; cases d <;> simp [D.ok] at hok
  rw [h1, hok]
theorem und_str {t : TypeId} {i : TI} (hi : TIok P t i) (hd : i.d = .str) : P.underlying t = some .string := by
  obtain ⟨d, h1, hok⟩ := hi.und
  rw [hd] at hok; cases d <;> simp [D.ok] at hok
  rw [h1]
theorem und_int {t : TypeId} {i : TI} {kd : IntKind} (hi : TIok P t i) (hd : i.d = .int kd) : P.underlying t = some (.int kd) := by
  obtain ⟨d, h1, hok⟩ := hi.und
  rw [hd] at hok; cases d <;> simp [D.ok] at hok
  rw [h1, hok]
theorem und_map {t a b : TypeId} {i : TI} (hi : TIok P t i) (hd : i.d = .map a b) : P.underlying t = some (.map a b) := by
  obtain ⟨d, h1, hok⟩ := hi.und
  rw [hd] at hok; cases d <;> simp [D.ok] at hok
  rw [h1, hok.1, hok.2]
theorem snd_idxA {t e : TypeId} {n : Nat} {i ie : TI} {x y : Operand} {x' y' : Od} (ho : o.op = .indexAddr t x y) (hi : TIok P t i) (hd : i.d = .array n e) (hie : TIok P e ie) (hx : od C x = some x') (hy : od C y = some y') (h : oIdxA n ie.size x' y' v s k = true) : ∃ x s', k x s' = true ∧ Snd P C o v s x s' := by
  simp only [oIdxA, getK_iff, asPtr_iff, ixK_iff, natK_eq] at h
  obtain ⟨z, hz, p, b, rfl, tk, m, hm', hlt, h⟩ := h
  refine ⟨_, s, h, .pure fun ρ a w hg he hm => ?_⟩
  obtain ⟨L, hL, e1⟩ := ptr_inv (od_conc hg he hx hz)
  have e2 := int_inv (od_conc hg he hy hm')
  refine ⟨.pointer (some ⟨L.blk, L.base + (b + m * ie.size), none⟩), w, ?_, rfl, by simp [conc, hL]⟩
  simp [execOp, ho, Instr.indexAt, e2, asIntOf, run_underlying (und_array hi hd), e1, Instr.sureAddr, hlt, run_size hie, Addr.add_mk, Nat.add_assoc]
theorem snd_idxS {t e : TypeId} {i ie : TI} {x y : Operand} {x' y' : Od} (ho : o.op = .indexAddr t x y) (hi : TIok P t i) (hd : i.d = .slice e) (hie : TIok P e ie) (hx : od C x = some x') (hy : od C y = some y') (h : oIdxS ie.size x' y' v s k = true) : ∃ x s', k x s' = true ∧ Snd P C o v s x s' := by
  simp only [oIdxS, getK_iff, asSl_iff, ixK_iff, natK_eq] at h
  obtain ⟨z, hz, h⟩ := h
  rcases h with ⟨_, h⟩ | ⟨p, b, len, c, rfl, tk, m, hm', hlt, h⟩
  · cases h
  refine ⟨_, s, h, .pure fun ρ a w hg he hm => ?_⟩
  obtain ⟨L, hL, e1⟩ := slice_inv (od_conc hg he hx hz)
  have e2 := int_inv (od_conc hg he hy hm')
  refine ⟨.pointer (some ⟨L.blk, L.base + (b + m * ie.size), none⟩), w, ?_, rfl, by simp [conc, hL]⟩
  simp [execOp, ho, Instr.indexAt, e2, asIntOf, run_underlying (und_slice hi hd), e1, hlt, run_size hie, Addr.add_mk, Nat.add_assoc]
theorem snd_idxStr {t : TypeId} {i : TI} {x y : Operand} {x' y' : Od} (ho : o.op = .index t x y) (hi : TIok P t i) (hd : i.d = .str) (hx : od C x = some x') (hy : od C y = some y') (h : oIdxStr x' y' v s k = true) : ∃ x s', k x s' = true ∧ Snd P C o v s x s' := by
  simp only [oIdxStr, getK_iff, asStr_iff, ixK_iff, natK_eq] at h
  obtain ⟨z, hz, l, n, rfl, tk, m, hm', hlt, h⟩ := h
  refine ⟨_, s, h, .pure fun ρ a w hg he hm => ⟨.int .u8 (sbyte n m : Nat), w, ?_, rfl, by simp [conc]⟩⟩
  have e1 := str_inv (od_conc hg he hx hz)
  have e2 := int_inv (od_conc hg he hy hm')
  have hb := sbyte_get l n m hlt
  have hl := sbyte_lt n m
  simp [execOp, ho, Instr.index, e2, asIntOf, run_underlying (und_str hi hd), e1, hb, UInt8.toNat_ofNat', Nat.mod_eq_of_lt hl]
theorem snd_idxV1 {t e : TypeId} {n : Nat} {i ie : TI} {x y : Operand} {x' y' : Od} (ho : o.op = .index t x y) (hi : TIok P t i) (hd : i.d = .array n e) (hie : TIok P e ie) (ha : ie.d.agg = false) (hx : od C x = some x') (hy : od C y = some y') (h : oIdxV1 n ie.size x' y' v s k = true) : ∃ x s', k x s' = true ∧ Snd P C o v s x s' := by
  simp only [oIdxV1, getK_iff, asAgg_iff, ixK_iff, nthK_iff] at h
  obtain ⟨z, hz, l, rfl, tk, m, hm', hlt, q, hq, h⟩ := h
  refine ⟨_, s, h, .pure fun ρ a w hg he hm => ?_⟩
  obtain ⟨us, hus, e1⟩ := agg_inv (od_conc hg he hx hz)
  have e2 := int_inv (od_conc hg he hy hm')
  obtain ⟨u, hu1, hu2⟩ := ((concs_iff _ _ _).1 hus).2 _ q hq
  have hu1' : us[m * ie.size]? = some u := hu1
  exact ⟨u, w, by simp [execOp, ho, Instr.index, e2, asIntOf, run_underlying (und_array hi hd), e1, hlt, run_size hie, run_part1 hie ha hu1'], rfl, hu2⟩
theorem snd_idxVN {t e : TypeId} {n : Nat} {i ie : TI} {x y : Operand} {x' y' : Od} (ho : o.op = .index t x y) (hi : TIok P t i) (hd : i.d = .array n e) (hie : TIok P e ie) (ha : ie.d.agg = true) (hx : od C x = some x') (hy : od C y = some y') (h : oIdxVN n ie.size x' y' v s k = true) : ∃ x s', k x s' = true ∧ Snd P C o v s x s' := by
  simp only [oIdxVN, getK_iff, asAgg_iff, ixK_iff, dropK_iff, takeK_iff] at h
  obtain ⟨z, hz, l, rfl, tk, m, hm', hlt, h1, h2, h⟩ := h
  refine ⟨_, s, h, .pure fun ρ a w hg he hm => ?_⟩
  obtain ⟨us, hus, e1⟩ := agg_inv (od_conc hg he hx hz)
  have e2 := int_inv (od_conc hg he hy hm')
  exact ⟨.agg ((us.drop (m * ie.size)).take ie.size).toArray, w, by simp [execOp, ho, Instr.index, e2, asIntOf, run_underlying (und_array hi hd), e1, hlt, run_size hie, run_partN hie ha], rfl, by simp only [conc]; rw [show (l.drop (m.mul ie.size)) = l.drop (m * ie.size) from rfl, concs_take (concs_drop hus _) _]; rfl⟩
end
end Go.Ev
