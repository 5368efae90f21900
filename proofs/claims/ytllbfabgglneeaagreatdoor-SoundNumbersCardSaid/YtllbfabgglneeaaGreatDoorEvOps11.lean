/- DERIVED. The ideal machine's operations against the model's: walks over strings, bytes of strings, functions without a body, calls. -/
import Derived.Test.YtllbfabgglneeaaGreatDoorEvOps10
import Derived.Lib.UnsafeStr
import Derived.Lib.Bytealg
set_option linter.unusedVariables false
set_option linter.unusedSimpArgs false
namespace Go.Ev
section
variable {P : Program} {C : Ctx} {o : Oper} {v : Env} {s : St} {k : KO}

theorem snd_rng {t : TypeId} {i : TI} {x : Operand} {x' : Od} (ho : o.op = .range t x) (hi : TIok P t i) (hd : i.d = .str) (hx : od C x = some x') (h : oRng x' v s k = true) : ∃ x s', k x s' = true ∧ Snd P C o v s x s' := by
  simp only [oRng, getK_iff, asStr_iff, newB_eq] at h
  obtain ⟨y, hy, l, n, rfl, hk⟩ := h
  refine ⟨_, _, hk, by rw [St.nx_add]; omega, fun ρ a w hg he hm hn => ?_⟩
  have e := str_inv (od_conc hg he hx hy)
  exact .value (x := .pointer (some ⟨w.heap.size, 0, none⟩)) (w' := { w with heap := w.heap.push (.stringIter (strB l n) 0) }) (by simp [execOp, ho, Instr.range, run_underlying (und_str hi hd), e]) ⟨_, by simp [conc], Step.add 0 hm hn.nxt rfl ⟨rfl, rfl⟩⟩

theorem getD_strB (l n pos : Nat) (h : pos < l) : ((strB l n).get! pos).toNat = sbyte n pos := by
  have h1 := sbyte_get l n pos h
  have hlt : pos < (strB l n).size := by rw [strB_size]; exact h
  have h2 : (strB l n)[pos]? = some (strB l n)[pos] := by
    exact getElem?_pos (strB l n) pos hlt
  rw [h2] at h1
  have h3 : (strB l n).get! pos = (strB l n)[pos] := by
    unfold ByteArray.get!
    show (strB l n).data[pos]! = _
    rw [getElem!_pos (strB l n).data pos hlt]; rfl
  rw [h3, Option.some.inj h1, UInt8.toNat_ofNat']
  exact Nat.mod_eq_of_lt (sbyte_lt n pos)
theorem runeK_eq (l n pos : Nat) (hp : pos < l) (k : Nat → Nat → Bool) : runeK l n pos k = k (Utf8.decode (strB l n) pos).1 (Utf8.decode (strB l n) pos).2 := by
  unfold runeK
  simp only [natK_eq]
  cases hb : Nat.blt (sbyte n pos) 128 with
  | true =>
    have hlt := (blt_iff _ _).1 hb
    have : Utf8.decode (strB l n) pos = (sbyte n pos, 1) := by
      unfold Utf8.decode
      simp only [Nat.add_zero, getD_strB l n pos hp]
      rw [if_pos (by omega)]
    rw [this]; rfl
  | false => rfl
theorem snd_next {x : Operand} {x' : Od} (ho : o.op = .next x true) (hx : od C x = some x') (h : oNext x' v s k = true) : ∃ x s', k x s' = true ∧ Snd P C o v s x s' := by
  simp only [oNext, getK_iff, asPtr_iff, boolK_t, stK_eq, getM_iff, iterB_iff] at h
  obtain ⟨y, hy, p, off, rfl, e0, b, hs, l, n, pos, rfl, h⟩ := h
  have e0' : off = 0 := Nat.eq_of_beq_eq_true e0
  subst e0'
  have hs' : s.get p = some (.iter l n pos) := hs
  have look : ∀ (ρ : Rho) (a : Act) (w : World), Glob C ρ → EnvRel ρ v a.tmps → MemRel ρ s w → ∃ L, ρ p = some L ∧ a.eval x = .pointer (some ⟨L.blk, 0, none⟩) ∧ w.heap[L.blk]? = some (.stringIter (strB l n) pos) := by
    intro ρ a w hg he hm
    obtain ⟨L, hL, e1⟩ := ptr_inv (od_conc hg he hx hy)
    obtain ⟨h1, h2⟩ := hm.blk p L _ hL hs'
    exact ⟨L, hL, by rw [e1, h1], h2⟩
  rw [boolK_iff, blt_iff] at h
  rcases h with ⟨hlt, h⟩ | ⟨hge, hk⟩
  · rw [runeK_eq l n pos hlt] at h
    simp only [natK_eq, putB_eq] at h
    refine ⟨_, _, h, Nat.le_refl _, fun ρ a w hg he hm hn => ?_⟩
    obtain ⟨L, hL, e1, hw⟩ := look ρ a w hg he hm
    refine .value (x := .tuple #[.bool true, .int .i64 pos, .int .i32 (Utf8.decode (strB l n) pos).1]) (w' := { w with heap := w.heap.setIfInBounds L.blk (.stringIter (strB l n) (pos + (Utf8.decode (strB l n) pos).2)) }) ?_ ⟨ρ, by simp [conc, concs], Step.put hm hL hs' rfl rfl ⟨?_, rfl⟩⟩
    · simp [execOp, ho, Instr.next, e1, run_getObj hw (by simp), strB_size, hlt, run_setObj _ hw (by simp), goInt]
    · exact (hm.blk p L _ hL hs').1
  · refine ⟨_, s, hk, .pure fun ρ a w hg he hm => ?_⟩
    obtain ⟨L, hL, e1, hw⟩ := look ρ a w hg he hm
    have hge' : ¬ pos < l := fun q => by rw [(blt_iff _ _).2 q] at hge; cases hge
    exact ⟨.tuple #[.bool false], w, by simp [execOp, ho, Instr.next, e1, run_getObj hw (by simp), strB_size, hge'], rfl, by simp [conc, concs]⟩

/-! ### Functions without a body, and one of the library's -/
theorem two_iff (l : List IV) (k : IV → IV → Bool) : two l k = true ↔ ∃ x y, l = [x, y] ∧ k x y = true := by
  match l with
  | [] => simp [two]
  | [x] => simp [two]
  | [x, y] => exact ⟨fun h => ⟨x, y, rfl, h⟩, fun ⟨_, _, e, h⟩ => by cases e; exact h⟩
  | x :: y :: z :: r => simp [two]
theorem digits_succ (l n : Nat) : digits (l + 1) n = UInt8.ofNat (n % 256) :: digits l (n / 256) := by
  unfold digits
  rw [List.range_succ_eq_map, List.map_cons, List.map_map]
  congr 1
  · simp
  · apply List.map_congr_left
    intro j _
    simp only [Function.comp, Nat.pow_succ, Nat.succ_eq_add_one]
    rw [Nat.mul_comm, ← Nat.div_div_eq_div_mul]
theorem beq_digit (n c : Nat) (hc : c < 256) : (UInt8.ofNat (n % 256) == UInt8.ofNat c) = Nat.beq (n % 256) c := by
  rw [Bool.eq_iff_iff, beq_iff_eq]
  constructor
  · intro h
    have := ofNat_inj (Nat.mod_lt _ (by decide)) hc h
    rw [this]; exact Nat.beq_refl _
  · intro h; rw [Nat.eq_of_beq_eq_true h]
theorem countB_eq (c : Nat) (hc : c < 256) : ∀ (l n : Nat) (k : Nat → Bool), countB c l n k = k (Lib.countByte (digits l n) (UInt8.ofNat c))
  | 0, n, k => rfl
  | l + 1, n, k => by
    have h1 : countB c (l + 1) n k = natK (Nat.div n 256) (fun m => countB c l m (fun r => boolK (Nat.beq (Nat.mod n 256) c) (natK (Nat.succ r) k) (k r))) := rfl
    rw [h1, natK_eq, countB_eq c hc l, digits_succ]
    simp only [Lib.countByte, List.count_cons, beq_digit n c hc, natK_eq]
    rw [show Nat.mod n 256 = n % 256 from rfl, show Nat.div n 256 = n / 256 from rfl]
    cases Nat.beq (n % 256) c <;> rfl
theorem indexB_eq (c : Nat) (hc : c < 256) : ∀ (l n i : Nat) (yes : Nat → Bool) (no : Bool), indexB c l n i yes no = if Lib.indexByte (digits l n) (UInt8.ofNat c) = -1 then no else yes (i + (Lib.indexByte (digits l n) (UInt8.ofNat c)).toNat)
  | 0, n, i, yes, no => by simp [digits, Lib.indexByte]; rfl
  | l + 1, n, i, yes, no => by
    have h1 : indexB c (l + 1) n i yes no = boolK (Nat.beq (Nat.mod n 256) c) (yes i) (natK (Nat.div n 256) (fun m => indexB c l m (Nat.succ i) yes no)) := rfl
    rw [h1, natK_eq, indexB_eq c hc l, digits_succ]
    simp only [Lib.indexByte, beq_digit n c hc]
    rw [show Nat.mod n 256 = n % 256 from rfl, show Nat.div n 256 = n / 256 from rfl]
    have hge := Lib.indexByte_ge (digits l (n / 256)) (UInt8.ofNat c)
    cases Nat.beq (n % 256) c with
    | true => simp [boolK]
    | false =>
      simp only [boolK, Bool.false_eq_true, if_false, beq_iff_eq]
      split
      · simp
      · rw [if_neg (by omega)]
        congr 1
        omega
theorem digits_take (l n m : Nat) (h : m ≤ l) : (digits l n).take m = digits m n := by
  apply List.ext_getElem?; intro j
  rw [List.getElem?_take, digits_get, digits_get]
  by_cases hj : j < m
  · rw [if_pos hj, if_pos hj, if_pos (by omega)]
  · rw [if_neg hj, if_neg hj]
theorem digits_eq_iff (l a b : Nat) : digits l a = digits l b ↔ a % 256 ^ l = b % 256 ^ l := by
  constructor
  · intro h
    refine digits_inj l _ _ (Nat.mod_lt _ (Nat.pow_pos (by decide))) (Nat.mod_lt _ (Nat.pow_pos (by decide))) ?_
    rw [digits_mod, digits_mod, h]
  · intro h; rw [← digits_mod l a, ← digits_mod l b, h]
theorem prefix_digits (l n l' n' : Nat) : (digits l' n').isPrefixOf (digits l n) = (Nat.ble l' l && Nat.beq (n % 256 ^ l') (n' % 256 ^ l')) := by
  rw [Bool.eq_iff_iff, Bool.and_eq_true, ble_iff, List.isPrefixOf_iff_prefix]
  constructor
  · intro h
    have hle : l' ≤ l := by simpa using h.length_le
    refine ⟨hle, ?_⟩
    have h1 := List.prefix_iff_eq_take.1 h
    rw [digits_length, digits_take l n l' hle] at h1
    rw [(digits_eq_iff l' n' n).1 h1]; exact Nat.beq_refl _
  · rintro ⟨hle, h⟩
    rw [List.prefix_iff_eq_take, digits_length, digits_take l n l' hle]
    exact (digits_eq_iff _ _ _).2 (Nat.eq_of_beq_eq_true h).symm
theorem index_short : ∀ (l sub : List UInt8), l.length < sub.length → Lib.index l sub = -1
  | [], sub, h => by
    cases sub with
    | nil => simp at h
    | cons => rfl
  | b :: l, sub, h => by
    have h1 : sub.isPrefixOf (b :: l) = false := by
      cases hp : sub.isPrefixOf (b :: l) with
      | false => rfl
      | true => have := (List.isPrefixOf_iff_prefix.1 hp).length_le; omega
    simp only [Lib.index, h1, index_short l sub (by simp at h; omega)]
    rfl
theorem indexS_eq (l' n' : Nat) : ∀ (l n i : Nat) (yes : Nat → Bool) (no : Bool), indexS l' (n' % 256 ^ l') l n i yes no = if Lib.index (digits l n) (digits l' n') = -1 then no else yes (i + (Lib.index (digits l n) (digits l' n')).toNat)
  | 0, n, i, yes, no => by
    have h1 : indexS l' (n' % 256 ^ l') 0 n i yes no = boolK (Nat.beq l' 0) (yes i) no := rfl
    rw [h1]
    cases l' with
    | zero => rfl
    | succ l' =>
      have : Lib.index (digits 0 n) (digits (l' + 1) n') = -1 := by rw [digits_succ]; rfl
      rw [if_pos this]; rfl
  | l + 1, n, i, yes, no => by
    have h1 : indexS l' (n' % 256 ^ l') (l + 1) n i yes no = boolK (Nat.ble l' (Nat.succ l)) (boolK (Nat.beq (Nat.mod n (p8 l')) (n' % 256 ^ l')) (yes i) (natK (Nat.div n 256) (fun m => indexS l' (n' % 256 ^ l') l m (Nat.succ i) yes no))) no := rfl
    rw [h1, natK_eq, indexS_eq l' n' l]
    cases hle : Nat.ble l' (Nat.succ l) with
    | false =>
      have hs : Lib.index (digits (l + 1) n) (digits l' n') = -1 := index_short _ _ (by
        have : ¬ l' ≤ l + 1 := fun q => by rw [show Nat.ble l' (Nat.succ l) = true from (ble_iff _ _).2 q] at hle; cases hle
        simp only [digits_length]; omega)
      rw [if_pos hs]
      rfl
    | true =>
      have hp := prefix_digits (l + 1) n l' n'
      rw [show Nat.ble l' (l + 1) = true from hle, Bool.true_and] at hp
      rw [digits_succ] at hp
      rw [digits_succ]
      have hix : Lib.index (UInt8.ofNat (n % 256) :: digits l (n / 256)) (digits l' n') = if Nat.beq (n % 256 ^ l') (n' % 256 ^ l') = true then 0 else if Lib.index (digits l (n / 256)) (digits l' n') = -1 then -1 else Lib.index (digits l (n / 256)) (digits l' n') + 1 := by
        simp only [Lib.index, hp, beq_iff_eq]
      rw [hix, show Nat.mod n (p8 l') = n % 256 ^ l' from rfl, show Nat.div n 256 = n / 256 from rfl]
      have hge := Lib.index_ge (digits l (n / 256)) (digits l' n')
      cases Nat.beq (n % 256 ^ l') (n' % 256 ^ l') with
      | true => simp [boolK]
      | false =>
        simp only [boolK, Bool.false_eq_true, if_false]
        split
        · simp
        · rw [if_neg (by omega)]
          congr 1
          omega

theorem evalF {f : FuncId} (a : Act) : a.eval (.func f) = .func (.func f) #[] #[] := rfl
theorem natOf_u8 {n : Int} {k : Nat → Bool} (h : natOf .u8 n k = true) : ∃ m : Nat, n = m ∧ m < 256 ∧ k m = true := by
  obtain ⟨m, e, hm, hk⟩ := (natOf_iff _ _ _).1 h
  exact ⟨m, e, by rw [show IntKind.u8.max = 255 from rfl] at hm; omega, hk⟩
theorem snd_ext {c : Call} {f : FuncId} {e : Ext} {l' : List Od} (ho : o.op = .call c) (hc : c.callee = .value (.func f)) (he : ExtOk P C f e) (hx : ods C c.args.toList = some l') (h : oExt e l' v s k = true) : ∃ x s', k x s' = true ∧ Snd P C o v s x s' := by
  simp only [oExt, getsK_iff] at h
  obtain ⟨l, hl, h⟩ := h
  cases e with
  | count =>
    obtain ⟨fn, hf, hb, hn, hfn, hfe⟩ := he
    have hn' : ¬ fn.name = "runtime.NumGoroutine" := by simpa using hn
    have hb' : fn.body = none := by simpa using hb
    have h1 : xCount l s k = true := h
    simp only [xCount, two_iff, asStr_iff, asInt_iff, boolK_t, kindEq_iff] at h1
    obtain ⟨x, y, rfl, m, n, rfl, t, b, rfl, rfl, h1⟩ := h1
    obtain ⟨b, rfl, hb256, h1⟩ := natOf_u8 h1
    rw [countB_eq b hb256] at h1
    refine ⟨_, s, h1, .pure fun ρ a w hg he hm => ⟨.int .i64 (Lib.countByte (digits m n) (UInt8.ofNat b) : Nat), w, ?_, rfl, by simp [conc]⟩⟩
    have hcs := ods_concs hg he hx hl
    simp only [concs, conc, Option.some.injEq] at hcs
    have ha : c.args.map a.eval = #[.string (strB m n), .int .u8 b] := by
      apply Array.ext'; rw [Array.toList_map, ← hcs]
    have hrun := Lib.run_countString (P := P) (strB m n) b w
    rw [strB_data] at hrun
    simp [execOp, ho, resolve, hc, ha, evalF, Deferred.ofValue, invoke, callFunc, hf, hn', hb', hfn, hfe, hrun]
  | indexByte =>
    obtain ⟨fn, hf, hb, hn, hfn, hfe⟩ := he
    have hn' : ¬ fn.name = "runtime.NumGoroutine" := by simpa using hn
    have hb' : fn.body = none := by simpa using hb
    have h1 : xIndexByte l s k = true := h
    simp only [xIndexByte, two_iff, asStr_iff, asInt_iff, boolK_t, kindEq_iff] at h1
    obtain ⟨x, y, rfl, m, n, rfl, t, b, rfl, rfl, h1⟩ := h1
    obtain ⟨b, rfl, hb256, h1⟩ := natOf_u8 h1
    rw [indexB_eq b hb256] at h1
    have hge := Lib.indexByte_ge (digits m n) (UInt8.ofNat b)
    have hk : k (.int .i64 (Lib.indexByte (digits m n) (UInt8.ofNat b))) s = true := by
      split at h1
      · rename_i e; rw [e]; exact h1
      · rename_i e
        rw [Nat.zero_add] at h1
        have : ((Lib.indexByte (digits m n) (UInt8.ofNat b)).toNat : Int) = Lib.indexByte (digits m n) (UInt8.ofNat b) := Int.toNat_of_nonneg (by omega)
        rw [← this]; exact h1
    refine ⟨_, s, hk, .pure fun ρ a w hg he hm => ⟨.int .i64 (Lib.indexByte (digits m n) (UInt8.ofNat b)), w, ?_, rfl, by simp [conc]⟩⟩
    have hcs := ods_concs hg he hx hl
    simp only [concs, conc, Option.some.injEq] at hcs
    have ha : c.args.map a.eval = #[.string (strB m n), .int .u8 b] := by
      apply Array.ext'; rw [Array.toList_map, ← hcs]
    have hrun := Lib.run_indexByteString (P := P) (strB m n) b w
    rw [strB_data] at hrun
    simp [execOp, ho, resolve, hc, ha, evalF, Deferred.ofValue, invoke, callFunc, hf, hn', hb', hfn, hfe, hrun]
  | index p =>
    obtain ⟨g, fn, rfl, hgl, hf, hb, hn, hcall⟩ := he
    have hn' : ¬ fn.name = "runtime.NumGoroutine" := by simpa using hn
    have hb' : ¬ fn.body = none := fun e => by rw [e] at hb; cases hb
    have h1 : xIndex (P2.ofNat g) l s k = true := h
    simp only [xIndex, two_iff, asStr_iff, asInt_iff, boolK_t, kindEq_iff, blt_iff, getC_iff, nthK_iff, natK_eq] at h1
    obtain ⟨x, y, rfl, m, n, rfl, m', n', rfl, hlt, cs, wr, sz, t, hs, c0, hc0, t0, q0, rfl, rfl, h1⟩ := h1
    rw [show Nat.mod n' (p8 m') = n' % 256 ^ m' from rfl, indexS_eq] at h1
    have hge := Lib.index_ge (digits m n) (digits m' n')
    have hk : k (.int .i64 (Lib.index (digits m n) (digits m' n'))) s = true := by
      split at h1
      · rename_i e; rw [e]; exact h1
      · rename_i e
        rw [Nat.zero_add] at h1
        have : ((Lib.index (digits m n) (digits m' n')).toNat : Int) = Lib.index (digits m n) (digits m' n') := Int.toNat_of_nonneg (by omega)
        rw [← this]; exact h1
    refine ⟨_, s, hk, Nat.le_refl _, fun ρ a w hg he hm hnd => ?_⟩
    have hcs := ods_concs hg he hx hl
    simp only [concs, conc, Option.some.injEq] at hcs
    have ha : c.args.map a.eval = #[.string (strB m n), .string (strB m' n')] := by
      apply Array.ext'; rw [Array.toList_map, ← hcs]
    obtain ⟨cap, hL⟩ := hg g hgl
    obtain ⟨u, hu, hw⟩ := cell_at hm hL hs hc0
    have hu' := int_inv hu
    subst hu'
    refine .enter (f := f) (args := #[.string (strB m n), .string (strB m' n')]) (w' := w) ?_ ((hcall (strB m n) (strB m' n') q0 w (by rw [strB_size]; omega) (by simpa using hw)).mono fun e w' ⟨h1, h2⟩ => ⟨_, h1, ρ, ?_, ?_⟩)
    · simp [execOp, ho, resolve, hc, ha, evalF, Deferred.ofValue, invoke, callFunc, hf, hn', hb']
    · rw [strB_data, strB_data]; simp [conc]
    · rw [h2]; exact Step.refl hm

/-! ### Calls -/
def CallOk (P : Program) (C : Ctx) (call : CallF) : Prop := ∀ (f : FuncId) (args : List IV) (s : St) (k : KO), call f args s k = true →
  ∃ x s', k x s' = true ∧ s.nx.num ≤ s'.nx.num ∧ (∃ fn, P.funcs[f]? = some fn ∧ fn.body.isNone = false ∧ (fn.name == "runtime.NumGoroutine") = false) ∧
    ∀ (ρ : Rho) (w : World) (vs : List Value), Glob C ρ → concs ρ args = some vs → MemRel ρ s w → NoDom ρ s s' →
      Calls P f vs.toArray w fun e w' => ∃ xv, e = .returned xv ∧ ∃ ρ', conc ρ' x = some xv ∧ Step ρ s w ρ' s' w'
theorem snd_call {c : Call} {f : FuncId} {l' : List Od} {call : CallF} (hcall : CallOk P C call) (ho : o.op = .call c) (hc : c.callee = .value (.func f)) (hx : ods C c.args.toList = some l') (h : oCall f l' call v s k = true) : ∃ x s', k x s' = true ∧ Snd P C o v s x s' := by
  simp only [oCall, getsK_iff] at h
  obtain ⟨l, hl, h⟩ := h
  obtain ⟨x, s', hk, hnx, ⟨fn, hf, hb, hn⟩, hC⟩ := hcall _ _ _ _ h
  have hn' : ¬ fn.name = "runtime.NumGoroutine" := by simpa using hn
  have hb' : ¬ fn.body = none := fun e => by rw [e] at hb; cases hb
  refine ⟨x, s', hk, hnx, fun ρ a w hg he hm hnd => ?_⟩
  have hcs := ods_concs hg he hx hl
  refine .enter (f := f) (args := (c.args.toList.map a.eval).toArray) (w' := w) ?_ (hC ρ w _ hg hcs hm hnd)
  simp [execOp, ho, resolve, hc, evalF, Deferred.ofValue, invoke, callFunc, hf, hn', hb']
  apply Array.ext'; simp
theorem snd_callv {c : Call} {fo : Operand} {f' : Od} {l' : List Od} {call : CallF} (hcall : CallOk P C call) (ho : o.op = .call c) (hc : c.callee = .value fo) (hfo : od C fo = some f') (hx : ods C c.args.toList = some l') (h : oCallv f' l' call v s k = true) : ∃ x s', k x s' = true ∧ Snd P C o v s x s' := by
  simp only [oCallv, getK_iff, asFn_iff, getsK_iff, appK_eq] at h
  obtain ⟨z, hz, g, fa, fb, rfl, l, hl, h⟩ := h
  obtain ⟨x, s', hk, hnx, ⟨fn, hf, hb, hn⟩, hC⟩ := hcall _ _ _ _ h
  have hn' : ¬ fn.name = "runtime.NumGoroutine" := by simpa using hn
  have hb' : ¬ fn.body = none := fun e => by rw [e] at hb; cases hb
  refine ⟨x, s', hk, hnx, fun ρ a w hg he hm hnd => ?_⟩
  have hcs := ods_concs hg he hx hl
  have hfc := od_conc hg he hfo hz
  simp only [conc] at hfc
  cases h1 : concs ρ fa with
  | none => simp [h1] at hfc
  | some va => cases h2 : concs ρ fb with
    | none => simp [h1, h2] at hfc
    | some vb =>
      simp [h1, h2] at hfc
      refine .enter (f := g) (args := (va ++ (c.args.toList.map a.eval ++ vb)).toArray) (w' := w) ?_ (hC ρ w _ hg (concs_append h1 (concs_append hcs h2)) hm hnd)
      simp [execOp, ho, resolve, hc, ← hfc, Deferred.ofValue, invoke, callFunc, hf, hn', hb']

/-! ### Bytes of a string; a string of bytes -/
theorem freeze_end {g : Nat} {arr : Array Value} {t : TypeId} {w : World} (h : w.heap[g]? = some (.cells arr t (0, 0))) : (w.freeze ⟨g, arr.size, none⟩ 1).heap = w.heap.setIfInBounds g (.cells arr t (arr.size, arr.size + 1)) := by
  obtain ⟨hlt, he⟩ := Array.getElem?_eq_some_iff.1 h
  simp only [World.freeze, if_neg (show ¬ (1 = 0) by decide)]
  apply Array.ext_getElem?; intro i
  rw [Array.getElem?_modify, Array.getElem?_setIfInBounds]
  split
  · rename_i e; subst e; simp [hlt, he]
  · rfl
theorem snd_s2b {src dst e : TypeId} {i j ie : TI} {x : Operand} {x' : Od} (ho : o.op = .convert src dst x) (hi : TIok P src i) (hj : TIok P dst j) (hd : i.d = .str) (hd2 : j.d = .slice e) (hie : TIok P e ie) (hd3 : ie.d = .int .u8) (hx : od C x = some x')
    (h : oS2b e x' v s k = true) : ∃ x s', k x s' = true ∧ Snd P C o v s x s' := by
  simp only [oS2b, getK_iff, asStr_iff, boolK_t, ble_iff, byteCells_eq, newB_eq] at h
  obtain ⟨y, hy, l, n, rfl, hl, hk⟩ := h
  refine ⟨_, _, hk, by rw [St.nx_add]; omega, fun ρ a w hg he hm hn => ?_⟩
  have e1 := str_inv (od_conc hg he hx hy)
  let cap := grownCap w l 0 e
  let row : Array Value := (byteVs (strB l n) ++ List.replicate (cap - l) (Value.int .u8 0)).toArray
  have hcap : l ≤ cap := Nat.le_add_right _ _
  have hlen : (byteVs (strB l n)).length = l := by simp [byteVs, strB_list]
  have hrow : row.size = cap := by simp [row, hlen]; omega
  let w1 : World := { w.drew with heap := w.heap.push (.cells row e) }
  have hw1 : w1.heap[w.heap.size]? = some (.cells row e (0, 0)) := by simp [w1]
  have hfr := freeze_end (w := w1) hw1
  refine .value (x := .slice (some ⟨w.heap.size, 0, none⟩) l cap) (w' := w1.freeze ⟨w.heap.size, row.size, none⟩ 1) ?_ ⟨ρ.set s.nx ⟨w.heap.size, 0, cap⟩, by simp [conc, ICap.of], Step.add cap hm hn.nxt (o := .cells row e (row.size, row.size + 1)) ?_ ?_⟩
  · have hrw : ((strB l n).data.map fun b => Value.int .u8 b.toNat) ++ Array.replicate (cap - l) (Value.int .u8 0) = row := by
      apply Array.ext'; simp [row, byteVs]
    have hsh : w1.shape? w.heap.size = some (e, row.size) := by simp [World.shape?, hw1]
    have hc : (choose (.appendCap l 0 e)).run P w = .ok cap w.drew := by rw [run_choose]; rfl
    simp only [execOp, ho, convert, run_underlying (und_str hi hd), run_underlying (und_slice hj hd2), run_underlying (und_int hie hd3), e1, Sem.run_bind, Result.andThen_ok, Conv.stringToBytes, strB_size, newRow, markStringish]
    rw [hc]
    simp only [Result.andThen_ok, Sem.run_pure, Sem.run_bind]
    rw [show (Array.map (fun b : UInt8 => Value.int IntKind.u8 (b.toNat : Int)) (strB l n).data ++ Array.replicate (cap - l) (Value.int IntKind.u8 0)) = row from hrw]
    simp only [run_newObj, Result.andThen_ok, run_shape]
    rw [show ({ w.drew with heap := w.drew.heap.push (.cells row e) } : World) = w1 from rfl, show w.drew.heap.size = w.heap.size from rfl, hsh]
    simp
  · refine Turned.of ?_ rfl rfl rfl
    rw [hfr]
    apply Array.ext_getElem?; intro q
    rw [Array.getElem?_setIfInBounds]
    simp only [w1]
    by_cases hq : w.heap.size = q
    · subst hq; simp
    · rw [if_neg hq]
      rw [Array.getElem?_push, Array.getElem?_push, if_neg (Ne.symm hq), if_neg (Ne.symm hq)]
  · have := BlkRel.grown (g := w.heap.size) (size := 1) (cap := cap) (rest := List.replicate (cap - l) (Value.int .u8 0)) (t := e) (byteL_conc (ρ.set s.nx ⟨w.heap.size, 0, cap⟩) l n) (need := l) (by rw [hlen, Nat.mul_one]) hcap (by simp)
    obtain ⟨arr, fr, h1, h2, h3, h4, h5⟩ := this
    cases h1
    exact ⟨row, _, rfl, h2, h3, fun _ j hj => by
      have : j < row.size := hj
      simp only; omega, h5.1, fun e => (by cases e)⟩
end
end Go.Ev
