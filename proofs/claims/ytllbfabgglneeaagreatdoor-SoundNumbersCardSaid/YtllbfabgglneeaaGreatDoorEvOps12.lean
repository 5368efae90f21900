/- DERIVED. The ideal machine's operations against the model's: maps; a string over bytes. -/
import Derived.Test.YtllbfabgglneeaaGreatDoorEvOps11
set_option linter.unusedVariables false
set_option linter.unusedSimpArgs false
namespace Go.Ev
section
variable {P : Program} {C : Ctx} {o : Oper} {v : Env} {s : St} {k : KO}

/-- How keys are compared, and the keys' type. -/
def EQ.key (q : EQ) (d : TypeDesc) : Prop := match q, d with
  | .int, .int _ | .str, .string | .bool, .bool => True
  | _, _ => False
theorem beq_list (a b : ByteArray) : (a.toList == b.toList) = (a == b) := by
  rw [Bool.eq_iff_iff, beq_iff_eq, MapKept.bytes_beq]
  constructor
  · intro h; exact bytes_ext (by rwa [ByteArray.toList_eq, ByteArray.toList_eq] at h)
  · intro h; rw [h]
theorem key_same {q : EQ} {d : TypeDesc} (hq : q.key d) {x y : IV} {k : Bool → Bool} (h : eqTop q x y k = true) :
    ∃ r, k r = true ∧ ∀ (ρ : Rho) vx vy, conc ρ x = some vx → conc ρ y = some vy → Instr.sameNow d vx vy = some r ∧ (r = true → vx = vy) := by
  cases q <;> cases d <;> simp [EQ.key] at hq
  · obtain ⟨a, b, rfl, rfl, hk⟩ := eq_bool h
    refine ⟨_, hk, fun ρ vx vy h1 h2 => ?_⟩
    rw [bool_inv h1, bool_inv h2]; exact ⟨rfl, fun e => by rw [eq_of_beq e]⟩
  · obtain ⟨t, a, b, rfl, rfl, hk⟩ := eq_int h
    refine ⟨_, hk, fun ρ vx vy h1 h2 => ?_⟩
    rw [int_inv h1, int_inv h2]; exact ⟨by simp [Instr.sameNow], fun e => by rw [eq_of_beq e]⟩
  · obtain ⟨l, n, l', n', rfl, rfl, hk⟩ := eq_str h
    refine ⟨_, hk, fun ρ vx vy h1 h2 => ?_⟩
    rw [str_inv h1, str_inv h2, beq_list]; exact ⟨rfl, fun e => by rw [(MapKept.bytes_beq _ _).1 e]⟩
/-- What a search through a map's entries comes to. -/
def Found (q : IV) (d : TypeDesc) (es : List (IV × IV)) (i : Nat) (j : Nat) : Prop :=
  ∃ a b, es[j]? = some (a, b) ∧ ∀ (ρ : Rho) (vq : Value) (l : List MapEntry), conc ρ q = some vq → l.length = es.length → (∀ (j : Nat) (k x : IV), es[j]? = some (k, x) → ∃ e : MapEntry, l[j]? = some e ∧ conc ρ k = some e.key ∧ conc ρ x = some e.val) →
    ∃ e : MapEntry, l[j]? = some e ∧ conc ρ a = some e.key ∧ conc ρ b = some e.val ∧ vq = e.key ∧ Instr.findNow d vq l i = some (some (i + j, e.val))
def Missing (q : IV) (d : TypeDesc) (es : List (IV × IV)) (i : Nat) : Prop :=
  ∀ (ρ : Rho) (vq : Value) (l : List MapEntry), conc ρ q = some vq → l.length = es.length → (∀ (j : Nat) (k x : IV), es[j]? = some (k, x) → ∃ e : MapEntry, l[j]? = some e ∧ conc ρ k = some e.key ∧ conc ρ x = some e.val) → Instr.findNow d vq l i = some none
theorem findK_inv {q0 : EQ} {d : TypeDesc} (hq : q0.key d) {q : IV} : ∀ {es : List (IV × IV)} {i : Nat} {yes : Nat → IV → Bool} {no : Bool}, findK q0 q es i yes no = true →
    (∃ j a b, es[j]? = some (a, b) ∧ Found q d es i j ∧ yes (i + j) b = true) ∨ (Missing q d es i ∧ no = true)
  | [], i, yes, no, h => .inr ⟨fun ρ vq l _ hl _ => by
      have : l = [] := List.length_eq_zero_iff.1 hl
      subst this; rfl, h⟩
  | (a, b) :: es, i, yes, no, h => by
    have h1 : eqTop q0 q a (fun r => boolK r (yes i b) (findK q0 q es (Nat.succ i) yes no)) = true := h
    obtain ⟨r, hr, hs⟩ := key_same hq h1
    have hd : ∀ (ρ : Rho) (vq : Value) (l : List MapEntry), conc ρ q = some vq → l.length = ((a, b) :: es).length → (∀ (j : Nat) (k x : IV), ((a, b) :: es)[j]? = some (k, x) → ∃ e : MapEntry, l[j]? = some e ∧ conc ρ k = some e.key ∧ conc ρ x = some e.val) →
        ∃ e l', l = e :: l' ∧ conc ρ a = some e.key ∧ conc ρ b = some e.val ∧ Instr.sameNow d vq e.key = some r ∧ (r = true → vq = e.key) ∧ l'.length = es.length ∧ (∀ (j : Nat) (k x : IV), es[j]? = some (k, x) → ∃ e : MapEntry, l'[j]? = some e ∧ conc ρ k = some e.key ∧ conc ρ x = some e.val) := by
      intro ρ vq l h2 h3 h4
      cases l with
      | nil => simp at h3
      | cons e l' =>
        obtain ⟨e', he', h5, h6⟩ := h4 0 a b rfl
        simp at he'; subst he'
        obtain ⟨h7, h8⟩ := hs ρ vq e.key h2 h5
        exact ⟨e, l', rfl, h5, h6, h7, h8, by simpa using h3, fun j k x hj => by simpa using h4 (j + 1) k x (by simpa using hj)⟩
    rw [boolK_iff] at hr
    rcases hr with ⟨rfl, hk⟩ | ⟨rfl, hk⟩
    · refine .inl ⟨0, a, b, rfl, ⟨a, b, rfl, fun ρ vq l h2 h3 h4 => ?_⟩, hk⟩
      obtain ⟨e, l', rfl, h5, h6, h7, h8, _⟩ := hd ρ vq l h2 h3 h4
      exact ⟨e, rfl, h5, h6, h8 rfl, by simp [Instr.findNow, h7]⟩
    · rcases findK_inv hq hk with ⟨j, a', b', hj, ⟨a2, b2, hj2, hf⟩, hk⟩ | ⟨hm, hk⟩
      · refine .inl ⟨j + 1, a', b', by simpa using hj, ⟨a2, b2, by simpa using hj2, fun ρ vq l h2 h3 h4 => ?_⟩, by rw [show i + (j + 1) = i.succ + j by omega]; exact hk⟩
        obtain ⟨e, l', rfl, h5, h6, h7, h8, h9, h10⟩ := hd ρ vq l h2 h3 h4
        obtain ⟨e', q1, q2, q3, q4, q5⟩ := hf ρ vq l' h2 h9 h10
        exact ⟨e', by simpa using q1, q2, q3, q4, by simp [Instr.findNow, h7, q5]; omega⟩
      · refine .inr ⟨fun ρ vq l h2 h3 h4 => ?_, hk⟩
        obtain ⟨e, l', rfl, h5, h6, h7, h8, h9, h10⟩ := hd ρ vq l h2 h3 h4
        simp [Instr.findNow, h7, hm ρ vq l' h2 h9 h10]
theorem run_check {kt : TypeId} {d : TypeDesc} (hd : P.underlying kt = some d) {q : EQ} (hq : q.key d) (x : Value) (b : Bool) (w : World) : (Instr.checkKey b 10000 kt x).run P w = .ok () w := by
  rw [show (10000 : Nat) = 9999 + 1 from rfl]
  unfold Instr.checkKey
  simp only [Sem.run_bind, run_underlying hd, Result.andThen_ok]
  cases q <;> cases d <;> simp [EQ.key] at hq <;> rfl
theorem run_find {kt : TypeId} {d : TypeDesc} (hd : P.underlying kt = some d) {x : Value} {l : List MapEntry} {r : Option (Nat × Value)} (h : Instr.findNow d x l 0 = some r) (w : World) : (Instr.findKey kt x l).run P w = .ok r w := by
  simp [Instr.findKey, run_underlying hd, h]
theorem und_key {kt : TypeId} {ik : TI} (hik : TIok P kt ik) {q : EQ} (hq : (q = .bool ∧ ik.d = .bool) ∨ (q = .str ∧ ik.d = .str) ∨ (q = .int ∧ ∃ kd, ik.d = .int kd)) : ∃ d, P.underlying kt = some d ∧ q.key d := by
  rcases hq with ⟨rfl, h⟩ | ⟨rfl, h⟩ | ⟨rfl, kd, h⟩
  · exact ⟨_, und_bool hik h, trivial⟩
  · exact ⟨_, und_str hik h, trivial⟩
  · exact ⟨_, und_int hik h, trivial⟩

theorem snd_look {t kt e : TypeId} {i ik ie : TI} {x y : Operand} {x' y' : Od} {ok : Bool} {q : EQ} {z : IV} (ho : o.op = .lookup t x y ok) (hi : TIok P t i) (hd : i.d = .map kt e) (hik : TIok P kt ik) (hq : (q = .bool ∧ ik.d = .bool) ∨ (q = .str ∧ ik.d = .str) ∨ (q = .int ∧ ∃ kd, ik.d = .int kd))
    (hie : TIok P e ie) (hz : zeroV ie = some z) (hx : od C x = some x') (hy : od C y = some y') (h : oLook q z ok x' y' v s k = true) : ∃ x s', k x s' = true ∧ Snd P C o v s x s' := by
  simp only [oLook, getK_iff, asMap_iff, getMap_iff] at h
  obtain ⟨mv, hmv, kv, hkv, h⟩ := h
  obtain ⟨d, hdk, hqk⟩ := und_key hik hq
  have fin : ∀ (r : IV) (b : Bool), okK ok r b s k = true → (∀ (ρ : Rho) (a : Act) (w : World), Glob C ρ → EnvRel ρ v a.tmps → MemRel ρ s w → ∃ u, conc ρ r = some u ∧ (execOp a.eval o).run P w = .ok (.value (if ok then .tuple #[u, .bool b] else u)) w) → ∃ x s', k x s' = true ∧ Snd P C o v s x s' := by
    intro r b hk hr
    unfold okK at hk
    rw [boolK_iff] at hk
    rcases hk with ⟨rfl, hk⟩ | ⟨rfl, hk⟩
    · exact ⟨_, s, hk, .pure fun ρ a w hg he hm => let ⟨u, h1, h2⟩ := hr ρ a w hg he hm; ⟨_, w, h2, rfl, by simp [conc, concs, h1]⟩⟩
    · exact ⟨_, s, hk, .pure fun ρ a w hg he hm => let ⟨u, h1, h2⟩ := hr ρ a w hg he hm; ⟨_, w, h2, rfl, by simp [h1]⟩⟩
  rcases h with ⟨rfl, h⟩ | ⟨p, rfl, es, hs, h⟩
  · refine fin _ _ h fun ρ a w hg he hm => ?_
    obtain ⟨u, hu1, hu2⟩ := zeroV_conc (ρ := ρ) hie hz w
    refine ⟨u, hu2, ?_⟩
    have e1 : a.eval x = .map none := by simpa [conc] using (od_conc hg he hx hmv).symm
    simp [execOp, ho, Instr.lookup, run_underlying (und_map hi hd), e1, run_check hdk hqk, run_find hdk (show Instr.findNow d (a.eval y) [] 0 = some none from rfl), hu1]
  · rcases findK_inv hqk h with ⟨j, ka, kb, hj, ⟨a2, b2, hj2, hf⟩, hk⟩ | ⟨hmiss, hk⟩
    · refine fin _ _ hk fun ρ a w hg he hm => ?_
      obtain ⟨L, hL, e1⟩ := map_inv (od_conc hg he hx hmv)
      obtain ⟨arr, clock, ha, hsz, hel⟩ := hm.blk p L _ hL hs
      obtain ⟨e', q1, q2, q3, q4, q5⟩ := hf ρ _ arr.toList (od_conc hg he hy hkv) (by simpa using hsz) (by simpa using hel)
      rw [hj] at hj2; cases hj2
      refine ⟨e'.val, q3, ?_⟩
      simp [execOp, ho, Instr.lookup, run_underlying (und_map hi hd), e1, run_getObj ha (by simp), run_check hdk hqk, run_find hdk q5]
    · refine fin _ _ hk fun ρ a w hg he hm => ?_
      obtain ⟨L, hL, e1⟩ := map_inv (od_conc hg he hx hmv)
      obtain ⟨arr, clock, ha, hsz, hel⟩ := hm.blk p L _ hL hs
      have q5 := hmiss ρ _ arr.toList (od_conc hg he hy hkv) (by simpa using hsz) (by simpa using hel)
      obtain ⟨u, hu1, hu2⟩ := zeroV_conc (ρ := ρ) hie hz w
      refine ⟨u, hu2, ?_⟩
      simp [execOp, ho, Instr.lookup, run_underlying (und_map hi hd), e1, run_getObj ha (by simp), run_check hdk hqk, run_find hdk q5, hu1]

theorem sameBits_key {d : TypeDesc} {q : EQ} (hq : q.key d) {x y : IV} {k : Bool → Bool} (h : eqTop q x y k = true) (ρ : Rho) (vx : Value) (h1 : conc ρ x = some vx) : Instr.sameBits 10000 vx vx = true := by
  cases q <;> cases d <;> simp [EQ.key] at hq
  · obtain ⟨a, b, rfl, rfl, hk⟩ := eq_bool h
    rw [bool_inv h1]; simp [Instr.sameBits]
  · obtain ⟨t, a, b, rfl, rfl, hk⟩ := eq_int h
    rw [int_inv h1]; simp [Instr.sameBits]
  · obtain ⟨l, n, l', n', rfl, rfl, hk⟩ := eq_str h
    rw [str_inv h1]; simp only [Instr.sameBits]; exact (MapKept.bytes_beq _ _).2 rfl
theorem findK_head {q0 : EQ} {q : IV} {a b : IV} {es : List (IV × IV)} {i : Nat} {yes : Nat → IV → Bool} {no : Bool} (h : findK q0 q ((a, b) :: es) i yes no = true) : ∃ k, eqTop q0 q a k = true := ⟨_, h⟩
theorem snd_mupd {t kt e : TypeId} {i ik : TI} {m x y : Operand} {m' x' y' : Od} {q : EQ} (ho : o.op = .mapUpdate t m x y ∨ o.op = .insert t m x y) (hi : TIok P t i) (hd : i.d = .map kt e) (hik : TIok P kt ik) (hq : (q = .bool ∧ ik.d = .bool) ∨ (q = .str ∧ ik.d = .str) ∨ (q = .int ∧ ∃ kd, ik.d = .int kd))
    (hm' : od C m = some m') (hx : od C x = some x') (hy : od C y = some y') (h : oMupd q m' x' y' v s k = true) : ∃ x s', k x s' = true ∧ Snd P C o v s x s' := by
  simp only [oMupd, getK_iff, asMap_iff, getMap_iff, Bool.false_eq_true, and_false, false_or] at h
  obtain ⟨mv, hmv, p, rfl, kv, hkv, xv, hxv, es, hs, h⟩ := h
  obtain ⟨d, hdk, hqk⟩ := und_key hik hq
  have run : ∀ (a : Act) (w w' : World), (Instr.mapUpdate t (a.eval m) (a.eval x) (a.eval y)).run P w = .ok () w' → (execOp a.eval o).run P w = .ok .skip w' := by
    intro a w w' hr
    rcases ho with ho | ho <;> simp [execOp, ho, hr]
  rcases findK_inv hqk h with ⟨j, ka, kb, hj, ⟨a2, b2, hj2, hf⟩, hk⟩ | ⟨hmiss, hk⟩
  · rw [hj] at hj2; cases hj2
    rw [Nat.zero_add, updK_iff, putB_eq] at hk
    obtain ⟨hlt, hk⟩ := hk
    have hsb : ∃ kk, eqTop q kv (es.head (by intro e; subst e; simp at hlt)).1 kk = true := by
      cases es with
      | nil => simp at hlt
      | cons hd tl => exact findK_head h
    obtain ⟨kk, hkk⟩ := hsb
    refine ⟨_, _, hk, Nat.le_refl _, fun ρ a w hg he hm hnd => ?_⟩
    obtain ⟨L, hL, e1⟩ := map_inv (od_conc hg he hm' hmv)
    obtain ⟨arr, clock, ha, hsz, hel⟩ := hm.blk p L _ hL hs
    have hkc := od_conc hg he hx hkv
    obtain ⟨e', q1, q2, q3, q4, q5⟩ := hf ρ _ arr.toList hkc (by simpa using hsz) (by simpa using hel)
    rw [Nat.zero_add] at q5
    have q1' : arr[j]? = some e' := by simpa using q1
    have hsame := sameBits_key hqk hkk ρ _ hkc
    refine .skip (w' := { w with heap := w.heap.setIfInBounds L.blk (.map (arr.modify j fun e => { e with key := a.eval x, val := a.eval y }) clock) }) (run a w _ ?_) ⟨ρ, conc_undef ρ, Step.put hm hL hs rfl rfl ⟨_, clock, rfl, by simp [hsz], fun j2 k2 x2 hj3 => ?_⟩⟩
    · have hold : ((arr[j]?).map (·.key)).getD (a.eval x) = a.eval x := by rw [q1']; exact q4.symm
      simp [Instr.mapUpdate, run_underlying (und_map hi hd), e1, run_getObj ha (by simp), run_check hdk hqk, run_find hdk q5, hold, Instr.keyThatStays, hsame, run_setObj _ ha (by simp)]
    · rw [Array.getElem?_modify]
      rw [List.getElem?_set] at hj3
      by_cases e : j = j2
      · subst e
        rw [if_pos rfl, if_pos hlt] at hj3
        cases hj3
        rw [if_pos rfl, q1']
        exact ⟨_, rfl, hkc, od_conc hg he hy hxv⟩
      · rw [if_neg e] at hj3
        rw [if_neg e]
        exact hel j2 k2 x2 hj3
  · rw [appK_eq, putB_eq] at hk
    refine ⟨_, _, hk, Nat.le_refl _, fun ρ a w hg he hm hnd => ?_⟩
    obtain ⟨L, hL, e1⟩ := map_inv (od_conc hg he hm' hmv)
    obtain ⟨arr, clock, ha, hsz, hel⟩ := hm.blk p L _ hL hs
    have hkc := od_conc hg he hx hkv
    have q5 := hmiss ρ _ arr.toList hkc (by simpa using hsz) (by simpa using hel)
    refine .skip (w' := { w with heap := w.heap.setIfInBounds L.blk (.map (arr.push { key := a.eval x, val := a.eval y, born := clock }) (clock + 1)) }) (run a w _ ?_) ⟨ρ, conc_undef ρ, Step.put hm hL hs rfl rfl ⟨_, clock + 1, rfl, by simp [hsz], fun j2 k2 x2 hj3 => ?_⟩⟩
    · simp [Instr.mapUpdate, run_underlying (und_map hi hd), e1, run_getObj ha (by simp), run_check hdk hqk, run_find hdk q5, run_setObj _ ha (by simp)]
    · by_cases hlt : j2 < es.length
      · rw [List.getElem?_append_left hlt] at hj3
        obtain ⟨e', h1, h2, h3⟩ := hel j2 k2 x2 hj3
        exact ⟨e', by rw [Array.getElem?_push_lt (by omega)]; rw [Array.getElem?_eq_getElem (by omega)] at h1; exact h1, h2, h3⟩
      · rw [List.getElem?_append_right (by omega)] at hj3
        have hj0 : j2 = es.length := by
          have := (List.getElem?_eq_some_iff.1 hj3).1
          simp at this; omega
        subst hj0
        simp at hj3
        obtain ⟨rfl, rfl⟩ := hj3
        rw [← hsz]
        exact ⟨{ key := a.eval x, val := a.eval y, born := clock }, by simp, hkc, od_conc hg he hy hxv⟩

/-! ### A string over bytes -/
theorem freeze_head {g n : Nat} {arr : Array Value} {t : TypeId} {fr : Nat × Nat} {w : World} (hn : n ≠ 0) (h : w.heap[g]? = some (.cells arr t fr)) : ∃ fr', Turned w (w.freeze ⟨g, 0, none⟩ n) (w.heap.setIfInBounds g (.cells arr t fr')) := by
  obtain ⟨hlt, he⟩ := Array.getElem?_eq_some_iff.1 h
  obtain ⟨lo, hi⟩ := fr
  refine ⟨if lo == hi then (0, 0 + n) else (min lo 0, max hi (0 + n)), Turned.of ?_ (by simp [World.freeze, hn]) (by simp [World.freeze, hn]) (by simp [World.freeze, hn])⟩
  simp only [World.freeze, if_neg hn]
  apply Array.ext_getElem?; intro i
  rw [Array.getElem?_modify, Array.getElem?_setIfInBounds]
  split
  · rename_i e; subst e; simp [hlt, he]
  · rfl
theorem snd_ustr {c : Call} {pt e : TypeId} {i ie : TI} {x' y' : Od} (ho : o.op = .call c) (hc : c.callee = .builtin .unsafeString) (h0 : ∃ it, c.argTypes = #[pt, it]) (hti : TIok P pt i) (hd : i.d = .ptr e) (hie : TIok P e ie) (hd2 : ie.d = .int .u8)
    (hx : ods C c.args.toList = some [x', y']) (h : oUstr e x' y' v s k = true) : ∃ x s', k x s' = true ∧ Snd P C o v s x s' := by
  obtain ⟨x, y, hl, hx, hy⟩ := args2 hx
  obtain ⟨it, h0⟩ := h0
  simp only [oUstr, getK_iff, asInt_iff, boolK_t, kindEq_iff, natOf_iff, boolK_f, asPtr_iff, getC_iff, takeK_iff] at h
  obtain ⟨lv, hlv, t, n, rfl, rfl, m, rfl, hm63, hm0, pv, hpv, p, off, rfl, hoff, cs, wr, sz, u, hs, rfl, hsz, hu, hle, h⟩ := h
  obtain ⟨bs, hbs, hk⟩ := bytesOf_iff _ _ h
  rw [putB_eq] at hk
  have e0 : off = 0 := Nat.eq_of_beq_eq_true hoff
  have e1 : sz = 1 := Nat.eq_of_beq_eq_true hsz
  have e2 : u = e := Nat.eq_of_beq_eq_true hu
  have hm0' : m ≠ 0 := Nat.ne_of_beq_eq_false hm0
  subst e0; subst e1; subst e2
  have hlen : bs.length = m := by
    have := congrArg List.length hbs
    simp at this; omega
  subst hlen
  refine ⟨_, _, hk, Nat.le_refl _, fun ρ a w hg he hm hnd => ?_⟩
  obtain ⟨L, hL, f1⟩ := ptr_inv (od_conc hg he hx hpv)
  have f2 := int_inv (od_conc hg he hy hlv)
  have hb := hm.blk p L _ hL hs
  obtain ⟨arr, fr, ha, hb2, hb3, hb4, hb5⟩ := hb
  have hbase := (hb5.1 (by decide)).1
  have hcells : P.cellsOf u = 1 := by
    obtain ⟨f, hf, f3, _⟩ := hie.info
    have := hie.one (by rw [hd2]; rfl)
    simp [Program.cellsOf, hf, f3, this]
  have hbs0 : bs ≠ [] := fun e => by subst e; exact hm0' rfl
  have f1' : a.eval x = .pointer (some ⟨L.blk, 0, none⟩) := by rw [f1, hbase]
  obtain ⟨fr', hfr⟩ := freeze_head (n := bs.length) hm0' ha
  have hrun := Lib.run_unsafeString_row (P := P) w pt it o.type u (und_ptr hti hd) hcells L.blk arr.size (by simp [World.shape?, ha]) bs hbs0 (by omega) (by rw [show IntKind.i64.max = 9223372036854775807 from rfl] at hm63; omega) (fun j b hj => by
    have hjl := (List.getElem?_eq_some_iff.1 hj).1
    have hcj : cs[j]? = some (.int .u8 (b.toNat : Int)) := by
      have h1 : (cs.take bs.length)[j]? = some (.int .u8 (b.toNat : Int)) := by rw [hbs, List.getElem?_map, hj]; rfl
      rwa [List.getElem?_take, if_pos hjl] at h1
    obtain ⟨u', hu', hw⟩ := cell_at hm hL hs hcj
    rw [int_inv hu'] at hw
    rw [hbase, Nat.zero_add] at hw
    rw [Addr.add_mk, Nat.zero_add]; exact hw)
  refine .value (x := .string ⟨bs.toArray⟩) (w' := w.freeze ⟨L.blk, 0, none⟩ bs.length) ?_ ⟨ρ, by simp [conc, strB_packL], Step.put hm hL hs rfl hfr ⟨arr, fr', rfl, hb2, hb3, fun e => (by cases e), hb5.1, fun e => (by cases e)⟩⟩
  simp [execOp, ho, resolve, hc, hl, invoke, builtin, h0, f1', f2, hrun]
end
end Go.Ev
