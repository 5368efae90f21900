/- DERIVED. The ideal machine's operations against the model's: append, copy. -/
import Derived.Test.YtllbfabgglneeaaGreatDoorEvOps8
import Derived.Laws.Append
set_option linter.unusedVariables false
namespace Go.Ev
section
variable {P : Program} {C : Ctx} {o : Oper} {v : Env} {s : St} {k : KO}

/-! ### Bytes as cells -/
def byteL (l n : Nat) : List IV := (List.range l).map fun j => .int .u8 ((n / 256 ^ j % 256 : Nat) : Int)
theorem byteL_succ (l n : Nat) : byteL (l + 1) n = .int .u8 ((n % 256 : Nat) : Int) :: byteL l (n / 256) := by
  unfold byteL
  rw [List.range_succ_eq_map, List.map_cons, List.map_map]
  congr 1
  · simp
  · apply List.map_congr_left
    intro j _
    simp only [Function.comp, Nat.pow_succ, Nat.succ_eq_add_one]
    rw [Nat.mul_comm, ← Nat.div_div_eq_div_mul]
theorem byteCells_eq (l n : Nat) (k : List IV → Bool) : byteCells l n k = k (byteL l n) := by
  induction l generalizing n k with
  | zero => rfl
  | succ l ih =>
    have h1 : byteCells (l + 1) n k = natK (Nat.mod n 256) (fun b => natK (Nat.div n 256) (fun m => byteCells l m (fun r => k (.int .u8 (.ofNat b) :: r)))) := rfl
    rw [h1, natK_eq, natK_eq, ih, byteL_succ]; rfl
theorem strB_list (l n : Nat) : (strB l n).data.toList = (List.range l).map fun j => UInt8.ofNat (n / 256 ^ j % 256) := by simp [strB]
def byteVs (b : ByteArray) : List Value := b.data.toList.map fun x => .int .u8 x.toNat
theorem byteL_conc (ρ : Rho) (l n : Nat) : concs ρ (byteL l n) = some (byteVs (strB l n)) := by
  rw [concs_iff]
  refine ⟨by simp [byteVs, byteL, strB_list], fun j x hj => ?_⟩
  have hlt : j < l := by have := (List.getElem?_eq_some_iff.1 hj).1; simpa [byteL] using this
  simp only [byteL, List.getElem?_map, List.getElem?_range hlt, Option.map_some, Option.some.injEq] at hj
  subst hj
  refine ⟨.int .u8 ((n / 256 ^ j % 256 : Nat) : Int), ?_, by simp [conc]⟩
  simp only [byteVs, strB_list, List.getElem?_map, List.getElem?_range hlt, Option.map_some, UInt8.toNat_ofNat']
  simp
theorem byteL_lone (l n : Nat) : ∀ x ∈ byteL l n, x.lone = true := by
  intro x hx
  simp only [byteL, List.mem_map] at hx
  obtain ⟨j, _, rfl⟩ := hx; rfl

/-! ### What append and copy take -/
def SrcIs (size : Nat) (s : St) (x : IV) (n : Nat) (l : List IV) : Prop :=
  (∃ m, x = .str n m ∧ size = 1 ∧ l = byteL n m) ∨
  (∃ p off c cs wr sz t, x = .sl p off n c ∧ s.get p = some (.cells cs wr sz t) ∧ off ≤ cs.length ∧ n * size ≤ (cs.drop off).length ∧ l = (cs.drop off).take (n * size)) ∨
  (x = .nilsl ∧ n = 0 ∧ l = [])
theorem srcK_iff {size : Nat} {x : IV} {k : Nat → List IV → Bool} (h : srcK size s x k = true) : ∃ n l, SrcIs size s x n l ∧ k n l = true := by
  cases x with
  | str l n =>
    have h' : boolK (Nat.beq size 1) (byteCells l n (fun cs => k l cs)) false = true := h
    rw [boolK_t, byteCells_eq] at h'
    exact ⟨_, _, .inl ⟨n, rfl, Nat.eq_of_beq_eq_true h'.1, rfl⟩, h'.2⟩
  | sl p off len c =>
    have h' : getC s p (fun cs _ _ _ => dropK cs off (fun r => takeK r (Nat.mul len size) (fun l => k len l))) = true := h
    simp only [getC_iff, dropK_iff, takeK_iff] at h'
    obtain ⟨cs, wr, sz, t, hs, h1, h2, hk⟩ := h'
    exact ⟨_, _, .inr (.inl ⟨p, off, c, cs, wr, sz, t, rfl, hs, h1, h2, rfl⟩), hk⟩
  | nilsl => exact ⟨_, _, .inr (.inr ⟨rfl, rfl, rfl⟩), h⟩
  | _ => simp [srcK] at h
theorem cell?_heap {w w' : World} (e : w'.heap = w.heap) (a : Addr) : w'.cell? a = w.cell? a := by simp [World.cell?, e]
theorem SrcIs.model {size : Nat} {x : IV} {n : Nat} {l : List IV} (h : SrcIs size s x n l) {ρ : Rho} {w : World} (hm : MemRel ρ s w) {u : Value} (hu : conc ρ x = some u) :
    ∃ us : List Value, concs ρ l = some us ∧ us.length = n * size ∧ (∀ w' : World, (Builtin.lenOf u).run P w' = .ok n w') ∧ ∀ m, m ≤ n → ∀ w' : World, w'.heap = w.heap → (Builtin.firstCells size m u).run P w' = .ok (us.take (m * size)).toArray w' := by
  rcases h with ⟨q, rfl, rfl, rfl⟩ | ⟨p, off, c, cs, wr, sz, t, rfl, hs, h1, h2, rfl⟩ | ⟨rfl, rfl, rfl⟩
  · have e := str_inv hu
    subst e
    refine ⟨_, byteL_conc ρ n q, by simp [byteVs, strB_list], fun w' => by simp [Builtin.lenOf, strB_size], fun m hmn w' e => ?_⟩
    simp only [Builtin.firstCells, Sem.run_pure]
    congr 1
    apply Array.ext'
    simp only [Array.toList_map, byteVs, Nat.mul_one]
    congr 1
    rw [ByteArray.data_extract, Array.toList_extract]
    simp [List.extract]
  · obtain ⟨L, hL, e⟩ := slice_inv hu
    subst e
    obtain ⟨us, hus, hl, hw⟩ := cells_at hm hL hs h1 h2
    refine ⟨us, hus, hl, fun w' => by simp [Builtin.lenOf], fun m hmn w' e => ?_⟩
    refine run_firstCells_some w' size m _ _ _ (us.take (m * size)) ?_ fun j q hj => ?_
    · rw [List.length_take, hl]; exact Nat.min_eq_left (Nat.mul_le_mul_right _ hmn)
    · rw [cell?_heap e]
      refine hw j q ?_
      rw [List.getElem?_take] at hj
      split at hj
      · exact hj
      · cases hj
  · have e : u = .slice none 0 0 := by simpa [conc] using hu.symm
    subst e
    refine ⟨[], rfl, by simp, fun w' => by simp [Builtin.lenOf], fun m hmn w' e => ?_⟩
    have : m = 0 := by omega
    subst this
    simp [Builtin.firstCells]

/-! ### append of the model's -/
section
variable {c : Call} {t u e : TypeId} {ie : TI} {x : Value} {n sLen sCap : Nat} {us : List Value} {ty : TypeId} {w : World}
theorem run_app_in {ats : Array TypeId} (h0 : ats[0]? = some t) (h1 : ats[1]? = some u) (ht : P.underlying t = some (.slice e)) (hu : ∃ d, P.underlying u = some d ∧ ∀ kd, d ≠ .int kd) (hie : TIok P e ie)
    (hlen : ∀ w', (Builtin.lenOf x).run P w' = .ok n w') (hf : (Builtin.firstCells ie.size n x).run P w = .ok us.toArray w) {ad : Addr} {w' : World} (hst : (storeCells (ad.add (sLen * ie.size)) us).run P w = .ok () w') (hn : sLen + n ≤ sCap) :
    (Builtin.append_ ats ty #[.slice (some ad) sLen sCap, x]).run P w = .ok (.slice (some ad) (sLen + n) sCap) w' := by
  obtain ⟨d, hd, hni⟩ := hu
  have hz : (match d with | .int _ => true | _ => false) = false := by cases d <;> first | rfl | exact absurd rfl (hni _)
  simp [Builtin.append_, h0, h1, run_underlying ht, run_underlying hd, run_size hie, hlen, hn, hf, hst]
theorem run_app_nil {ats : Array TypeId} (h0 : ats[0]? = some t) (h1 : ats[1]? = some u) (ht : P.underlying t = some (.slice e)) (hu : ∃ d, P.underlying u = some d ∧ ∀ kd, d ≠ .int kd) (hie : TIok P e ie)
    (hlen : ∀ w', (Builtin.lenOf x).run P w' = .ok 0 w') (hf : (Builtin.firstCells ie.size 0 x).run P w = .ok us.toArray w)  :
    (Builtin.append_ ats ty #[.slice none 0 0, x]).run P w = .ok (.slice none 0 0) w := by
  obtain ⟨d, hd, hni⟩ := hu
  have hz : (match d with | .int _ => true | _ => false) = false := by cases d <;> first | rfl | exact absurd rfl (hni _)
  simp [Builtin.append_, h0, h1, run_underlying ht, run_underlying hd, run_size hie, hlen, hf]
theorem run_app_grow {ats : Array TypeId} (h0 : ats[0]? = some t) (h1 : ats[1]? = some u) (ht : P.underlying t = some (.slice e)) (hu : ∃ d, P.underlying u = some d ∧ ∀ kd, d ≠ .int kd) (hie : TIok P e ie) (hb0 : 0 < ie.bytes) (hb : ie.bytes ≤ 100000)
    (hlen : ∀ w', (Builtin.lenOf x).run P w' = .ok n w') (hf : ∀ w', w'.heap = w.heap → (Builtin.firstCells ie.size n x).run P w' = .ok us.toArray w') {base : Option Addr} {olds : List Value} (hold : ∀ w', w'.heap = w.heap → (Builtin.firstCells ie.size sLen (.slice base sLen sCap)).run P w' = .ok olds.toArray w')
    (hn : sCap < sLen + n) (hN : sLen + n ≤ 1000000) :
    ∃ cap w' rest, (Builtin.append_ ats ty #[.slice base sLen sCap, x]).run P w = .ok (.slice (some ⟨w.heap.size, 0, none⟩) (sLen + n) cap) w' ∧ sLen + n ≤ cap ∧ rest.length = (cap - (sLen + n)) * ie.size ∧
      Turned w w' (w.heap.push (.cells (olds ++ us ++ rest).toArray e)) := by
  obtain ⟨d, hd, hni⟩ := hu
  have hz : (match d with | .int _ => true | _ => false) = false := by cases d <;> first | rfl | exact absurd rfl (hni _)
  obtain ⟨f, hf1, hsz, hby⟩ := run_info hie w
  obtain ⟨fi, hfi, fs, fb, z, hzv, _, hzs, _⟩ := hie.info
  have hfit : Builtin.nextslicecap (sLen + n) sCap * fi.bytes ≤ 281474976710656 := growslice_fits hn (by
    rw [fb]
    calc (sLen + n) * ie.bytes ≤ 1000000 * 100000 := Nat.mul_le_mul hN hb
      _ ≤ _ := by decide)
  have h48 : ¬ (281474976710656 < Builtin.nextslicecap (sLen + n) sCap * fi.bytes) := by omega
  have hbz : ¬ fi.bytes = 0 := by omega
  have hlt : ¬ (sLen + n ≤ sCap) := by omega
  refine ⟨grownCap w (sLen + n) sCap e, w.drew.alloc (.cells (olds.toArray ++ us.toArray ++ Builtin.zeroCells z.cells (grownCap w (sLen + n) sCap e - (sLen + n))) e), (Builtin.zeroCells z.cells (grownCap w (sLen + n) sCap e - (sLen + n))).toList, ?_, Nat.le_add_right _ _, by simp [Builtin.zeroCells, hzs], ?_⟩
  · simp [Builtin.append_, h0, h1, run_underlying ht, run_underlying hd, sizeOf, typeInfo, zeroValue, hfi, hzv, fs, hlen, hlt, h48, hbz, Question.forced, hold w.drew rfl, hf w.drew rfl, newRow, grownCap]
    congr 2
    apply Array.ext'; simp
  · have ha : olds.toArray ++ us.toArray ++ Builtin.zeroCells z.cells (grownCap w (sLen + n) sCap e - (sLen + n)) = (olds ++ us ++ (Builtin.zeroCells z.cells (grownCap w (sLen + n) sCap e - (sLen + n))).toList).toArray := by
      apply Array.ext'; simp
    rw [← ha]; first | done | rfl
end
/-! ### append -/
/-- A row that append lays anew. -/
theorem BlkRel.grown {ρ : Rho} {g cap size : Nat} {cs : List IV} {us rest : List Value} {t : TypeId} {need : Nat} (h : concs ρ cs = some us) (hs : us.length = need * size) (hc : need ≤ cap) (hr : rest.length = (cap - need) * size) :
    BlkRel ρ ⟨g, 0, cap⟩ (.cells cs true size t) (some (.cells (us ++ rest).toArray t)) := by
  obtain ⟨h1, h2⟩ := (concs_iff _ _ _).1 h
  have e : (cap - need) * size = cap * size - need * size := Nat.sub_mul ..
  have hle : need * size ≤ cap * size := Nat.mul_le_mul_right _ hc
  refine ⟨_, (0, 0), rfl, by simp; omega, fun j x hj => ?_, fun _ j _ => by simp, fun hsz => ⟨rfl, by show cs.length ≤ cap * size; omega, by show cap * size ≤ _; simp; omega⟩, fun _ => rfl⟩
  obtain ⟨u, hu, hx⟩ := h2 j x hj
  refine ⟨u, hx, ?_⟩
  have hlt := (List.getElem?_eq_some_iff.1 hu).1
  simp only [List.getElem?_toArray, Nat.zero_add]
  rw [List.getElem?_append_left hlt]; exact hu

section
variable {c : Call} {t u e : TypeId} {ie : TI} {x y : Operand} {y' : IV} {n : Nat} {news : List IV}
/-- append that lays a new row. -/
theorem app_new {s1 : St} {q : IV} {base : Option Addr} {sLen sCap : Nat} {old : List IV} {olds us : List Value} {ρ : Rho} {w : World} {xs xv : Value} {ats : Array TypeId} {ty : TypeId}
    (h0 : ats[0]? = some t) (h1 : ats[1]? = some u) (ht : P.underlying t = some (.slice e)) (hu : ∃ d, P.underlying u = some d ∧ ∀ kd, d ≠ .int kd) (hie : TIok P e ie) (hb0 : 0 < ie.bytes) (hb : ie.bytes ≤ 100000)
    (hm : MemRel ρ s1 w) (hn : ρ s1.nx = none) (hx : xs = .slice base sLen sCap)
    (hlen : ∀ w', (Builtin.lenOf xv).run P w' = .ok n w') (hf : ∀ w', w'.heap = w.heap → (Builtin.firstCells ie.size n xv).run P w' = .ok us.toArray w') (hus : concs ρ news = some us) (hul : us.length = n * ie.size)
    (hold : ∀ w', w'.heap = w.heap → (Builtin.firstCells ie.size sLen (.slice base sLen sCap)).run P w' = .ok olds.toArray w') (hos : concs ρ old = some olds) (hol : olds.length = sLen * ie.size)
    (hn' : sCap < sLen + n) (hN : sLen + n ≤ 1000000) :
    ∃ r w' ρ', (Builtin.append_ ats ty #[xs, xv]).run P w = .ok r w' ∧ conc ρ' (.sl s1.nx 0 (sLen + n) (.till 0)) = some r ∧ Step ρ s1 w ρ' (s1.add (.cells (old ++ news) true ie.size e)) w' := by
  subst hx
  obtain ⟨cap, w', rest, hr, hcap, hrest, hw⟩ := run_app_grow (ty := ty) h0 h1 ht hu hie hb0 hb hlen hf hold hn' hN
  refine ⟨_, w', ρ.set s1.nx ⟨w.heap.size, 0, cap⟩, hr, ?_, Step.add cap hm hn hw ?_⟩
  · simp [conc, ICap.of]
  · refine BlkRel.grown (concs_mono (Rho.set_ext _ hn) _ _ (concs_append hos hus)) ?_ hcap hrest
    rw [List.length_append, hol, hul, ← Nat.add_mul]

theorem capK_iff (c : ICap) (a b : Nat → Bool) : capK c a b = true ↔ (∃ m, c = .is m ∧ a m = true) ∨ (∃ f, c = .till f ∧ b f = true) := by cases c <;> simp [capK]
/-- The cells of a slice, as the model reads them. -/
theorem old_cells {ρ : Rho} {w : World} (hm : MemRel ρ s w) {p : P2} {L : Loc} {cs : List IV} {wr : Bool} {sz size len cap off : Nat} {t : TypeId} (hp : ρ p = some L) (hs : s.get p = some (.cells cs wr sz t)) (h1 : off ≤ cs.length) (h2 : len * size ≤ (cs.drop off).length) :
    ∃ us : List Value, concs ρ ((cs.drop off).take (len * size)) = some us ∧ us.length = len * size ∧ ∀ w', w'.heap = w.heap → (Builtin.firstCells size len (.slice (some ⟨L.blk, L.base + off, none⟩) len cap)).run P w' = .ok us.toArray w' := by
  obtain ⟨us, hus, hl, hw⟩ := cells_at hm hp hs h1 h2
  exact ⟨us, hus, hl, fun w' e => run_firstCells_some w' size len _ _ _ us hl fun j q hj => by rw [cell?_heap e]; exact hw j q hj⟩
theorem snd_app {i : TI} {x' y' : Od} (ho : o.op = .call c) (hc : c.callee = .builtin .append) (h0 : c.argTypes[0]? = some t) (h1 : c.argTypes[1]? = some u) (hti : TIok P t i) (hd : i.d = .slice e)
    (hu : ∃ d, P.underlying u = some d ∧ ∀ kd, d ≠ .int kd) (hie : TIok P e ie) (hs0 : 0 < ie.size) (hb0 : 0 < ie.bytes) (hb : ie.bytes ≤ 100000)
    (hx : ods C c.args.toList = some [x', y']) (h : oApp ie.size e x' y' v s k = true) : ∃ x s', k x s' = true ∧ Snd P C o v s x s' := by
  obtain ⟨x, y, hl, hx, hy⟩ := args2 hx
  have ht := und_slice hti hd
  simp only [oApp, getK_iff] at h
  obtain ⟨av, hav, bv, hbv, h⟩ := h
  replace h := srcK_iff h
  obtain ⟨n, news, hsrc, h⟩ := h
  rw [boolK_t, ble_iff] at h
  replace ⟨hn, h⟩ := h
  have run : ∀ (a : Act) (w : World) (r : Value) (w' : World), (Builtin.append_ c.argTypes o.type #[a.eval x, a.eval y]).run P w = .ok r w' → (execOp a.eval o).run P w = .ok (.value r) w' := by
    intro a w r w' hr
    simp [execOp, ho, resolve, hc, hl, invoke, builtin, hr]
  rw [asSl_iff] at h
  rcases h with ⟨rfl, h⟩ | ⟨p, off, len, cp, rfl, h⟩
  · rw [boolK_iff, newB_eq] at h
    rcases h with ⟨e0, hk⟩ | ⟨e0, hk⟩
    · have e1 := Nat.eq_of_beq_eq_true e0
      subst e1
      refine ⟨_, s, hk, .pure fun ρ a w hg he hm => ⟨.slice none 0 0, w, run a w _ _ ?_, rfl, by simp [conc]⟩⟩
      have e2 : a.eval x = .slice none 0 0 := by simpa [conc] using (od_conc hg he hx hav).symm
      obtain ⟨us, hus, hul, hlen, hf⟩ := hsrc.model (P := P) hm (od_conc hg he hy hbv)
      rw [e2]
      exact run_app_nil h0 h1 ht hu hie hlen (hf 0 (Nat.le_refl 0) w rfl)
    · have hne := Nat.ne_of_beq_eq_false e0
      refine ⟨_, _, hk, by rw [St.nx_add]; omega, fun ρ a w hg he hm hnd => ?_⟩
      have e2 : a.eval x = .slice none 0 0 := by simpa [conc] using (od_conc hg he hx hav).symm
      obtain ⟨us, hus, hul, hlen, hf⟩ := hsrc.model (P := P) hm (od_conc hg he hy hbv)
      obtain ⟨r, w', ρ', hr, hcr, hst⟩ := app_new (P := P) (q := .nilsl) (old := []) (olds := []) (ty := o.type) h0 h1 ht hu hie hb0 hb hm hnd.nxt e2 hlen (fun w' e => by have := hf n (Nat.le_refl n) w' e; rwa [← hul, List.take_length] at this) hus hul
        (fun w' e => by simp [Builtin.firstCells]) rfl (by simp) (by omega) (by omega)
      rw [Nat.zero_add] at hcr
      exact .value (run a w _ _ hr) ⟨ρ', hcr, hst⟩
  · simp only [getC_iff, natK_eq, boolK_t, ble_iff, capK_iff] at h
    obtain ⟨cs, wr, sz, tt, hs, hN, ⟨m, rfl, h⟩ | ⟨f, rfl, h⟩⟩ := h
    · rw [boolK_iff, ble_iff] at h
      rcases h with ⟨hroom, h⟩ | ⟨hno, h⟩
      · simp only [appIn, areCells_iff, boolK_t, overK_iff, putB_eq] at h
        obtain ⟨hone, rfl, hle, hk⟩ := h
        refine ⟨_, _, hk, Nat.le_refl _, fun ρ a w hg he hm hnd => ?_⟩
        obtain ⟨L, hL, e1⟩ := slice_inv (od_conc hg he hx hav)
        obtain ⟨us, hus, hul, hlen, hf⟩ := hsrc.model (P := P) hm (od_conc hg he hy hbv)
        obtain ⟨w', hw', hst⟩ := store_step (P := P) hm hL hs hus hle hone
        refine .value (run a w _ _ (?_ : _ = Result.ok (.slice (some ⟨L.blk, L.base + off, none⟩) (len + n) m) w')) ⟨ρ, by simp [conc, hL, ICap.of], hst⟩
        rw [e1]
        exact run_app_in h0 h1 ht hu hie hlen (by have := hf n (Nat.le_refl n) w rfl; rwa [← hul, List.take_length] at this) (by rw [Addr.add_mk, Nat.add_assoc]; exact hw') hroom
      · simp only [appNew, dropK_iff, takeK_iff, appK_eq, newB_eq] at h
        obtain ⟨g1, g2, hk⟩ := h
        refine ⟨_, _, hk, by rw [St.nx_add]; omega, fun ρ a w hg he hm hnd => ?_⟩
        obtain ⟨L, hL, e1⟩ := slice_inv (od_conc hg he hx hav)
        obtain ⟨us, hus, hul, hlen, hf⟩ := hsrc.model (P := P) hm (od_conc hg he hy hbv)
        obtain ⟨olds, hos, hol, hof⟩ := old_cells (P := P) (cap := m) hm hL hs g1 g2
        obtain ⟨r, w', ρ', hr, hcr, hst⟩ := app_new (P := P) (q := .nilsl) (ty := o.type) h0 h1 ht hu hie hb0 hb hm hnd.nxt e1 hlen (fun w' e => by have := hf n (Nat.le_refl n) w' e; rwa [← hul, List.take_length] at this) hus hul
          hof hos hol (by
            show m < len + n
            rcases Nat.lt_or_ge m (len + n) with q | q
            · exact q
            · have := (ble_iff _ _).2 q
              rw [show Nat.ble (len + n) m = false from hno] at this; cases this) hN
        exact .value (run a w _ _ hr) ⟨ρ', hcr, hst⟩
    · rw [rowK_iff] at h
      obtain ⟨hrow, h⟩ := h
      simp only [lenK_eq] at h
      rw [boolK_iff, ble_iff] at h
      have hoff : off = f * ie.size ∧ off + len * ie.size ≤ cs.length ∧ sz = ie.size := by
        obtain ⟨cs2, wr2, t2, hs2, q1, q2⟩ := hrow
        rw [hs] at hs2; cases hs2; exact ⟨q1, q2, rfl⟩
      obtain ⟨hoff, hlc, rfl⟩ := hoff
      rcases h with ⟨hroom, h⟩ | ⟨hno, h⟩
      · simp only [appIn, areCells_iff, boolK_t, overK_iff, putB_eq] at h
        obtain ⟨hone, rfl, hle, hk⟩ := h
        refine ⟨_, _, hk, Nat.le_refl _, fun ρ a w hg he hm hnd => ?_⟩
        obtain ⟨L, hL, e1⟩ := slice_inv (od_conc hg he hx hav)
        obtain ⟨us, hus, hul, hlen, hf⟩ := hsrc.model (P := P) hm (od_conc hg he hy hbv)
        obtain ⟨w', hw', hst⟩ := store_step (P := P) hm hL hs hus hle hone
        have hcap : f + (len + n) ≤ L.cap := row_cap (len := len + n) (off := off) hm hL hs0 ⟨cs, true, tt, hs, hoff, by rw [Nat.add_mul, ← Nat.add_assoc]; exact hroom⟩
        refine .value (run a w _ _ (?_ : _ = Result.ok (.slice (some ⟨L.blk, L.base + off, none⟩) (len + n) (L.cap - f)) w')) ⟨ρ, by simp [conc, hL, ICap.of], hst⟩
        rw [e1]
        exact run_app_in h0 h1 ht hu hie hlen (by have := hf n (Nat.le_refl n) w rfl; rwa [← hul, List.take_length] at this) (by rw [Addr.add_mk, Nat.add_assoc]; exact hw') (by show len + n ≤ L.cap - f; omega)
      · simp only [boolK_t, areCells_iff, delB_eq, appNew, dropK_iff, takeK_iff, appK_eq, newB_eq] at h
        obtain ⟨rfl, e0, e2, e3, hone, g1, g2, hk⟩ := h
        have e0' := Nat.eq_of_beq_eq_true e0
        have e2' := Nat.eq_of_beq_eq_true e2
        have e3' := Nat.eq_of_beq_eq_true e3
        subst e3'
        have hf0 : f = 0 := by
          rcases Nat.mul_eq_zero.1 (show f * ie.size = 0 by omega) with q | q <;> omega
        subst hf0
        subst e0'
        have hfull : cs.length = len * ie.size := by
          have : 0 + len * ie.size = cs.length := e2'
          omega
        have hcs : (cs.drop 0).take (Nat.mul len ie.size) = cs := by
          rw [List.drop_zero]; exact List.take_of_length_le (by show _ ≤ len * ie.size; omega)
        rw [hcs] at hk
        refine ⟨_, _, hk, by rw [St.nx_add]; show s.nx.num ≤ s.nx.num + 1; omega, fun ρ a w hg he hm hnd => ?_⟩
        obtain ⟨L, hL, e1⟩ := slice_inv (od_conc hg he hx hav)
        obtain ⟨us, hus, hul, hlen, hf⟩ := hsrc.model (P := P) hm (od_conc hg he hy hbv)
        have hf' : ∀ w' : World, w'.heap = w.heap → (Builtin.firstCells ie.size n (a.eval y)).run P w' = .ok us.toArray w' := fun w' e => by have := hf n (Nat.le_refl n) w' e; rwa [← hul, List.take_length] at this
        have hfree : ρ s.nx = none := hnd s.nx (Nat.le_refl _) (by rw [St.nx_add]; show s.nx.num < s.nx.num + 1; omega)
        obtain ⟨arr, fr, ha, hb2, hb3, hb4, hb5⟩ := hm.blk p L _ hL hs
        obtain ⟨hbase, hcap1, hcap2⟩ := hb5.1 hs0
        obtain ⟨un1, un2⟩ := (concs_iff _ _ _).1 hus
        by_cases hr : len + n ≤ L.cap
        · have hroom2 : (len + n) * ie.size ≤ arr.size := Nat.le_trans (Nat.mul_le_mul_right _ hr) hcap2
          have hsum : (len + n) * ie.size = len * ie.size + n * ie.size := Nat.add_mul ..
          have hone' : ∀ q ∈ us, q.oneCell' = true := fun q hq => by
            obtain ⟨j, hj⟩ := List.getElem?_of_mem hq
            have hlt : j < news.length := by rw [← un1]; exact (List.getElem?_eq_some_iff.1 hj).1
            obtain ⟨q', hq', hcq⟩ := un2 j _ (List.getElem?_eq_getElem hlt)
            rw [hj] at hq'; cases hq'
            rw [oneC_eq]; exact conc_lone hcq (hone _ (List.getElem_mem hlt))
          have hst := run_storeCells' (P := P) L.blk (len * ie.size) tt fr us 0 arr w ha (by omega) (hb4 rfl) hone'
          refine .value (run a w _ _ (?_ : _ = Result.ok (.slice (some ⟨L.blk, L.base + 0, none⟩) (len + n) (L.cap - 0)) (rowed w L.blk (arr.toList.take (len * ie.size) ++ us ++ arr.toList.drop (len * ie.size + us.length)).toArray tt fr))) ⟨ρ.set s.nx L, ?_, Step.moved hm hfree hL hs rfl (o := .cells (arr.toList.take (len * ie.size) ++ us ++ arr.toList.drop (len * ie.size + us.length)).toArray tt fr) rfl ?_⟩
          · rw [e1]
            refine run_app_in h0 h1 ht hu hie hlen (hf' w rfl) ?_ (show len + n ≤ L.cap - 0 by omega)
            rw [Addr.add_mk, hbase, Nat.zero_add]; try rw [Nat.zero_add]
            exact hst
          · simp [conc, ICap.of, St.del]
          · have hsz : ((arr.toList.take (len * ie.size) ++ us ++ arr.toList.drop (len * ie.size + us.length)).toArray).size = arr.size := by simp; omega
            refine ⟨_, fr, rfl, by rw [hsz, hbase, List.length_append, ← un1]; omega, fun j q hj => ?_, fun _ => by rw [hsz]; exact hb4 rfl, fun _ => ⟨hbase, ?_, by rw [hsz]; exact hcap2⟩, fun e => absurd e (by omega)⟩
            · rw [hbase, Nat.zero_add, List.getElem?_toArray]
              by_cases c1 : j < cs.length
              · rw [List.getElem?_append_left c1] at hj
                obtain ⟨q', hq1, hq2⟩ := hb3 j q hj
                refine ⟨q', hq1, ?_⟩
                rw [hbase, Nat.zero_add] at hq2
                rw [List.append_assoc, List.getElem?_append_left (by simp; omega), List.getElem?_take, if_pos (by omega)]
                simpa using hq2
              · rw [List.getElem?_append_right (by omega)] at hj
                obtain ⟨q', hq1, hq2⟩ := un2 _ q hj
                refine ⟨q', hq2, ?_⟩
                have hjl := (List.getElem?_eq_some_iff.1 hq1).1
                have hmin : min (len * ie.size) arr.toList.length = len * ie.size := Nat.min_eq_left (by simp; omega)
                rw [List.append_assoc, List.getElem?_append_right (by rw [List.length_take, hmin]; omega), List.length_take, hmin, List.getElem?_append_left (by omega), ← hfull]; exact hq1
            · rw [List.length_append, ← un1, hul, hfull, ← hsum]; exact Nat.mul_le_mul_right _ hr
        · obtain ⟨olds, hos, hol, hof⟩ := old_cells (P := P) (cap := L.cap - 0) hm hL hs (Nat.zero_le _) g2
          rw [show (cs.drop 0).take (len * ie.size) = cs from hcs] at hos
          obtain ⟨r, w', ρ', hr', hcr, hst⟩ := app_new (P := P) (q := .nilsl) (ty := o.type) h0 h1 ht hu hie hb0 hb (Step.del p hm).mem hfree e1 hlen hf' hus hul hof hos hol (by show L.cap - 0 < _; omega) hN
          exact .value (run a w _ _ hr') ⟨ρ', hcr, (Step.del p hm).trans hst⟩
end
end
end Go.Ev
