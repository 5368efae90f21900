/- DERIVED. The first memory of the first round: what a world that fits the rows has for the ideal machine. -/
import Derived.Test.YtllbfabgglneeaaGreatDoorEvR1d
import Derived.Test.YtllbfabgglneeaaGreatDoorEvR1s
import Derived.Test.YtllbfabgglneeaaGreatDoorRows
import Derived.Stop.LaidErr
import Derived.LaidMore
import Derived.ShapedOpen
import Derived.Shelf.Vars
set_option linter.unusedVariables false
namespace Go.Ev
/-- A listed sentinel: where it lies, what block its text stands in. -/
theorem laid_sentinel_at {P : Program} {n nm : String} {text : List UInt8} {r : List (String × DataW Unit)} {W : World} {g : Nat} {ti tp te ts : TypeId} {ms : Array (String × TypeId)} {f : Field}
    (h : laidMet P ((n, .iface nm (.ptr (.agg [.lit (.string text)]))) :: r) W)
    (hg : P.globalNamed n = some g) (ht : (P.globals[g]?).map (·.type) = some ti) (hi : P.underlying ti = some (.interface ms)) (hrow : ∀ u, P.typeName? 3 u = some nm → u = tp)
    (hp : P.underlying tp = some (.pointer te)) (he : P.underlying te = some (.struct #[f])) (hft : f.type = ts) (hfo : f.offset = 0) (hs : P.underlying ts = some .string) (hc : P.cellsOf te = 1) (hcs : P.cellsOf ts = 1) :
    ∃ (b o : Nat) (s : ByteArray) (c : Array Value) (t : TypeId), W.cell? ⟨g, 0, none⟩ = some (.iface tp (.pointer (some ⟨b, o, none⟩))) ∧ W.heap[b]? = some (.cells c t (0, 0)) ∧ c[o]? = some (.string s) ∧ s.data.toList = text := by
  obtain ⟨ps, ⟨g0, t0, cs0, f0, p0, q0, hg0, ht0, hv0, hd0, _, e0⟩, _, hrows⟩ := h
  obtain rfl := Option.some.inj (hg.symm.trans hg0)
  obtain rfl := Option.some.inj (ht.symm.trans ht0)
  subst e0
  obtain ⟨l0⟩ := cs0
  have ok0 : ∀ u v, l0 = [.iface u v] → Value.okWide P W .any 0 u v := fun u v e => by
    subst e
    exact (hrows g 0 (by simp [MemPlace.row])).2 u v (by simpa using World.var?_cell hg0 hv0 0)
  obtain ⟨a0, s0, rfl, hc0, hs0, hz0, rfl⟩ := errorString_of_trod hi hrow hp he hft hfo hs hc hcs hd0 ok0
  have hcell : W.cell? ⟨g, 0, none⟩ = some (.iface tp (.pointer (some a0))) := by simpa using World.var?_cell hg0 hv0 0
  obtain ⟨b, o, sp⟩ := a0
  have hsp : sp = none := by
    cases sp with
    | none => rfl
    | some x =>
      simp only [World.cell?] at hc0
      split at hc0
      · simp at hc0
      · cases hc0
  subst hsp
  obtain ⟨⟨c, t, hb⟩, _⟩ := hrows b o (by simp [MemPlace.row])
  refine ⟨b, o, s0, c, t, hcell, hb, ?_, hs0⟩
  simpa [World.cell?, hb] using hc0
/-- A one-celled variable's block. -/
theorem block_of_shape {P : Program} {w : World} {g : Nat} {t : TypeId} {zero : Array Value} (h : w.ShapedOpen P) (hg : g < P.globals.size)
    (h0 : ((begin P (fun _ _ => 0) default).world.heap[g]?).bind Obj.row? = some (zero, t)) : ∃ cs, w.heap[g]? = some (.cells cs t (0, 0)) ∧ cs.size = zero.size := by
  obtain ⟨cs, hh, hs, _⟩ := h.1 g zero t hg h0
  exact ⟨cs, hh, hs⟩
theorem blkRel_one {ρ : Rho} {L : Loc} {x : IV} {v : Value} {t : TypeId} {o : Option Obj} {arr : Array Value} (ho : o = some (.cells arr t (0, 0))) (ha : arr[L.base]? = some v) (hx : conc ρ x = some v) : BlkRel ρ L (.cells [x] false 0 t) o := by
  have hlt := (Array.getElem?_eq_some_iff.1 ha).1
  refine ⟨arr, (0, 0), ho, by simp; omega, fun j y hj => ?_, (fun h => (by cases h)), (fun h => absurd h (by decide)), fun _ => rfl⟩
  cases j with
  | zero => simp at hj; subst hj; exact ⟨v, hx, ha⟩
  | succ j => simp at hj
end Go.Ev
namespace Go.Ev.R1
open Go Go.Ev Go.Proofs Go.Proofs.YtllbfabgglneeaaGreatDoor
set_option maxRecDepth 100000
theorem gR : Tryz.prog.globalNamed "strconv.ErrRange" = some 4 := by kernel_rfl
theorem gS : Tryz.prog.globalNamed "strconv.ErrSyntax" = some 3 := by kernel_rfl
theorem tR : (Tryz.prog.globals[4]?).map (·.type) = some 170 := by kernel_rfl
theorem tS : (Tryz.prog.globals[3]?).map (·.type) = some 170 := by kernel_rfl
theorem star : "*" ++ "errors.errorString" = "*errors.errorString" := by decide
theorem row213 (u : TypeId) (h : Tryz.prog.typeName? 3 u = some "*errors.errorString") : u = 213 :=
  typeName_ptr_named (nm := "errors.errorString") (by rw [star]; kernel_rfl) (by kernel_rfl) (by decide) u (by rw [star]; exact h)
theorem und213 : ∃ te f ts, Tryz.prog.underlying 213 = some (.pointer te) ∧ Tryz.prog.underlying te = some (.struct #[f]) ∧ f.type = ts ∧ f.offset = 0 ∧ Tryz.prog.underlying ts = some .string ∧ Tryz.prog.cellsOf te = 1 ∧ Tryz.prog.cellsOf ts = 1 := by
  have h : (match Tryz.prog.underlying 213 with
    | some (.pointer te) => (match Tryz.prog.underlying te with
      | some (.struct ⟨[f]⟩) => Nat.beq f.offset 0 && Nat.beq (Tryz.prog.cellsOf te) 1 && Nat.beq (Tryz.prog.cellsOf f.type) 1 && (match Tryz.prog.underlying f.type with | some .string => true | _ => false)
      | _ => false)
    | _ => false) = true := by kernel_rfl
  split at h
  · rename_i te h1
    split at h
    · rename_i f h2
      simp only [Bool.and_eq_true] at h
      obtain ⟨⟨⟨e1, e2⟩, e3⟩, e4⟩ := h
      split at e4
      · rename_i h3
        exact ⟨te, f, f.type, h1, h2, rfl, Nat.eq_of_beq_eq_true e1, h3, Nat.eq_of_beq_eq_true e2, Nat.eq_of_beq_eq_true e3⟩
      · cases e4
    · cases h
  · cases h
theorem und170 : ∃ ms, Tryz.prog.underlying 170 = some (.interface ms) := by
  have h : (match Tryz.prog.underlying 170 with | some (.interface _) => true | _ => false) = true := by kernel_rfl
  split at h
  · rename_i ms h1; exact ⟨ms, h1⟩
  · cases h
def tRng : List UInt8 := [118, 97, 108, 117, 101, 32, 111, 117, 116, 32, 111, 102, 32, 114, 97, 110, 103, 101]
def tSyn : List UInt8 := [105, 110, 118, 97, 108, 105, 100, 32, 115, 121, 110, 116, 97, 120]
/-- What is listed of the sentinels. -/
def Two (W : World) : Prop := ∃ r, laidMet Tryz.prog (("strconv.ErrRange", Rows.laid_strconv_ErrRange) :: ("strconv.ErrSyntax", Rows.laid_strconv_ErrSyntax) :: r) W
theorem row_g (g : Nat) (zero : Array Value) (t : TypeId) (h : ((begin Tryz.prog (fun _ _ => 0) default).world.heap[g]?).bind Obj.row? = some (zero, t)) {W : World} (hs : W.ShapedOpen Tryz.prog) (hg : g < 8) : ∃ cs, W.heap[g]? = some (.cells cs t (0, 0)) ∧ cs.size = zero.size :=
  block_of_shape hs (by have e : Tryz.prog.globals.size = 8 := by kernel_rfl
                        omega) h
noncomputable def rowB (g : Nat) : Option (Nat × TypeId) := (((begin Tryz.prog (fun _ _ => 0) default).world.heap[g]?).bind Obj.row?).map fun x => (x.1.size, x.2)
theorem rows_all : ((List.range 8).all fun g => (rowB g).isSome) = true := by kernel_rfl
theorem rowB0 : rowB 0 = some (1, 3) := by kernel_rfl
theorem rowB3 : rowB 3 = some (1, 170) := by kernel_rfl
theorem rowB4 : rowB 4 = some (1, 170) := by kernel_rfl
theorem cells_of {W : World} (hs : W.ShapedOpen Tryz.prog) {g n : Nat} {t : TypeId} (hg : g < 8) (h : rowB g = some (n, t)) : ∃ cs, W.heap[g]? = some (.cells cs t (0, 0)) ∧ cs.size = n := by
  simp only [rowB, Option.map_eq_some_iff, Prod.mk.injEq] at h
  obtain ⟨⟨zero, t'⟩, h1, rfl, rfl⟩ := h
  exact row_g g _ _ h1 hs hg
theorem lt_heap {W : World} (hs : W.ShapedOpen Tryz.prog) {g : Nat} (hg : g < 8) : g < W.heap.size := by
  have := List.all_eq_true.1 rows_all g (List.mem_range.2 hg)
  obtain ⟨⟨n, t⟩, h⟩ := Option.isSome_iff_exists.1 this
  obtain ⟨cs, h1, _⟩ := cells_of hs hg h
  exact (Array.getElem?_eq_some_iff.1 h1).1
theorem maxLen_cell {W : World} (hs : W.ShapedOpen Tryz.prog) : ∃ m, W.cell? ⟨0, 0, none⟩ = some (.int .i64 m) := by
  have h : ∃ zero, ((begin Tryz.prog (fun _ _ => 0) default).world.heap[0]?).bind Obj.row? = some (zero, 3) ∧ zero.size = 1 := by
    have := rowB0
    simp only [rowB, Option.map_eq_some_iff, Prod.mk.injEq] at this
    obtain ⟨⟨zero, t'⟩, h1, h2, rfl⟩ := this
    exact ⟨zero, h1, h2⟩
  obtain ⟨zero, h1, h2⟩ := h
  have e : Tryz.prog.globals.size = 8 := by kernel_rfl
  exact cell_of_shapedOpen_int hs (by omega) h1 h2 (by kernel_rfl) (by kernel_rfl) Tryz.underlying3
/-- The names' places. -/
def rho (R S : Loc) : Rho := fun p => [⟨0, 0, 0⟩, ⟨1, 0, 0⟩, ⟨2, 0, 0⟩, ⟨3, 0, 0⟩, ⟨4, 0, 0⟩, ⟨5, 0, 0⟩, ⟨6, 0, 0⟩, ⟨7, 0, 0⟩, R, S][p.num - 1]?
noncomputable def s1t (m : Int) (tR tS : TypeId) : St := ((((St.mk .leaf (P2.ofNat 10)).put (P2.ofNat 0) (bMax m)).put (P2.ofNat 3) bSyn).put (P2.ofNat 4) bRng).put (P2.ofNat 8) (bTxt 18 txtRng tR) |>.put (P2.ofNat 9) (bTxt 14 txtSyn tS)
theorem s1_eq (m : Int) (tR tS : TypeId) : s1 m tR tS = s1t m tR tS := by kernel_rfl
theorem ofNat_eq {a b : Nat} (h : P2.ofNat a = P2.ofNat b) : a = b := by
  have h1 := ofNat_num a
  have h2 := ofNat_num b
  rw [h] at h1; omega
theorem s1_get {m : Int} {tR tS : TypeId} {p : P2} {b : Blk} (h : (s1 m tR tS).get p = some b) :
    (p = P2.ofNat 9 ∧ b = bTxt 14 txtSyn tS) ∨ (p = P2.ofNat 8 ∧ b = bTxt 18 txtRng tR) ∨ (p = P2.ofNat 4 ∧ b = bRng) ∨ (p = P2.ofNat 3 ∧ b = bSyn) ∨ (p = P2.ofNat 0 ∧ b = bMax m) := by
  rw [s1_eq] at h
  simp only [s1t, St.get_put] at h
  split at h
  · rename_i e; exact .inl ⟨e, (Option.some.inj h).symm⟩
  split at h
  · rename_i e; exact .inr (.inl ⟨e, (Option.some.inj h).symm⟩)
  split at h
  · rename_i e; exact .inr (.inr (.inl ⟨e, (Option.some.inj h).symm⟩))
  split at h
  · rename_i e; exact .inr (.inr (.inr (.inl ⟨e, (Option.some.inj h).symm⟩)))
  split at h
  · rename_i e; exact .inr (.inr (.inr (.inr ⟨e, (Option.some.inj h).symm⟩)))
  · simp [St.get, tget] at h
theorem s1_ro (m : Int) (tR tS : TypeId) (p : P2) (b : Blk) (h : (s1 m tR tS).get p = some b) : b.ro = true := by
  rcases s1_get h with ⟨_, rfl⟩ | ⟨_, rfl⟩ | ⟨_, rfl⟩ | ⟨_, rfl⟩ | ⟨_, rfl⟩ <;> rfl
theorem pack_rng : packL tRng = txtRng := by decide
theorem pack_syn : packL tSyn = txtSyn := by decide
theorem rho_at {R S : Loc} {p : P2} {L : Loc} (h : rho R S p = some L) : ∃ n, p = P2.ofNat n ∧ n < 10 ∧ (n < 8 → L = ⟨n, 0, 0⟩) ∧ (n = 8 → L = R) ∧ (n = 9 → L = S) := by
  have hpos := p.num_pos
  refine ⟨p.num - 1, P2.num_inj (by rw [ofNat_num]; omega), ?_⟩
  have hlt : p.num - 1 < 10 := (List.getElem?_eq_some_iff.1 h).1
  refine ⟨hlt, fun h8 => ?_, fun h8 => ?_, fun h8 => ?_⟩
  · have : p.num - 1 = 0 ∨ p.num - 1 = 1 ∨ p.num - 1 = 2 ∨ p.num - 1 = 3 ∨ p.num - 1 = 4 ∨ p.num - 1 = 5 ∨ p.num - 1 = 6 ∨ p.num - 1 = 7 := by omega
    unfold rho at h
    rcases this with e | e | e | e | e | e | e | e <;> rw [e] at h ⊢ <;> exact (Option.some.inj h).symm
  · unfold rho at h; rw [h8] at h; exact (Option.some.inj h).symm
  · unfold rho at h; rw [h8] at h; exact (Option.some.inj h).symm
theorem rho_of (R S : Loc) (n : Nat) : rho R S (P2.ofNat n) = [⟨0, 0, 0⟩, ⟨1, 0, 0⟩, ⟨2, 0, 0⟩, ⟨3, 0, 0⟩, ⟨4, 0, 0⟩, ⟨5, 0, 0⟩, ⟨6, 0, 0⟩, ⟨7, 0, 0⟩, R, S][n]? := by
  unfold rho; rw [ofNat_num]; rfl
/-- ████ The first memory. -/
theorem mem1 {W : World} (hs : W.ShapedOpen Tryz.prog) (hl : Two W) : ∃ ρ m tR tS, Glob CB ρ ∧ MemRel ρ (s1 m tR tS) W ∧ ∀ p, (P2.ofNat 10).num ≤ p.num → ρ p = none := by
  obtain ⟨r, hl⟩ := hl
  obtain ⟨te, f, ts, u1, u2, u3, u4, u5, u6, u7⟩ := und213
  obtain ⟨ms, ui⟩ := und170
  obtain ⟨bR, oR, sR, cR, tyR, hR1, hR2, hR3, hR4⟩ := laid_sentinel_at hl gR tR ui row213 u1 u2 u3 u4 u5 u6 u7
  obtain ⟨bS, oS, sS, cS, tyS, hS1, hS2, hS3, hS4⟩ := laid_sentinel_at hl.tail gS tS ui row213 u1 u2 u3 u4 u5 u6 u7
  obtain ⟨m, hm⟩ := maxLen_cell hs
  obtain ⟨c0, h0, z0⟩ := cells_of hs (by decide) rowB0
  obtain ⟨c3, h3, z3⟩ := cells_of hs (by decide) rowB3
  obtain ⟨c4, h4, z4⟩ := cells_of hs (by decide) rowB4
  have k0 : c0[0]? = some (.int .i64 m) := by simpa [World.cell?, h0] using hm
  have k3 : c3[0]? = some (.iface 213 (.pointer (some ⟨bS, oS, none⟩))) := by simpa [World.cell?, h3] using hS1
  have k4 : c4[0]? = some (.iface 213 (.pointer (some ⟨bR, oR, none⟩))) := by simpa [World.cell?, h4] using hR1
  have apart : ∀ (b o : Nat) (c : Array Value) (t : TypeId) (s : ByteArray), W.heap[b]? = some (.cells c t (0, 0)) → c[o]? = some (.string s) → b ≠ 0 ∧ b ≠ 3 ∧ b ≠ 4 := by
    intro b o c t s hb hc
    have hlt := (Array.getElem?_eq_some_iff.1 hc).1
    refine ⟨fun e => ?_, fun e => ?_, fun e => ?_⟩ <;> subst e
    · rw [h0] at hb; cases hb; have : o = 0 := by omega
      subst this; rw [k0] at hc; cases hc
    · rw [h3] at hb; cases hb; have : o = 0 := by omega
      subst this; rw [k3] at hc; cases hc
    · rw [h4] at hb; cases hb; have : o = 0 := by omega
      subst this; rw [k4] at hc; cases hc
  obtain ⟨aR0, aR3, aR4⟩ := apart _ _ _ _ _ hR2 hR3
  obtain ⟨aS0, aS3, aS4⟩ := apart _ _ _ _ _ hS2 hS3
  have aRS : bR = bS → oR ≠ oS := fun e e2 => by
    subst e; subst e2
    rw [hR2] at hS2; cases hS2
    rw [hR3] at hS3; cases hS3
    have : tRng = tSyn := hR4.symm.trans hS4
    exact absurd this (by decide)
  refine ⟨rho ⟨bR, oR, 0⟩ ⟨bS, oS, 0⟩, m, tyR, tyS, ?_, ⟨?_, ?_, ?_, ?_⟩, ?_⟩
  · intro g hg
    have hg' : g < 8 := glob8 g hg
    refine ⟨0, ?_⟩
    rw [rho_of]
    have : g = 0 ∨ g = 1 ∨ g = 2 ∨ g = 3 ∨ g = 4 ∨ g = 5 ∨ g = 6 ∨ g = 7 := by omega
    rcases this with rfl | rfl | rfl | rfl | rfl | rfl | rfl | rfl <;> rfl
  · intro p L b hp hb
    rcases s1_get hb with ⟨rfl, rfl⟩ | ⟨rfl, rfl⟩ | ⟨rfl, rfl⟩ | ⟨rfl, rfl⟩ | ⟨rfl, rfl⟩ <;> rw [rho_of] at hp <;> obtain rfl := Option.some.inj hp
    · refine blkRel_one hS2 hS3 ?_
      have := lit1_conc (rho ⟨bR, oR, 0⟩ ⟨bS, oS, 0⟩) (v := .string sS) (x := .str 14 txtSyn) (by rw [lit1, hS4, ← pack_syn]; rfl)
      exact this
    · refine blkRel_one hR2 hR3 ?_
      have := lit1_conc (rho ⟨bR, oR, 0⟩ ⟨bS, oS, 0⟩) (v := .string sR) (x := .str 18 txtRng) (by rw [lit1, hR4, ← pack_rng]; rfl)
      exact this
    · refine blkRel_one h4 k4 ?_
      have : rho ⟨bR, oR, 0⟩ ⟨bS, oS, 0⟩ (.i (.o (.o .e))) = some ⟨bR, oR, 0⟩ := rfl
      simp [conc, this]
    · refine blkRel_one h3 k3 ?_
      have : rho ⟨bR, oR, 0⟩ ⟨bS, oS, 0⟩ (.o (.i (.o .e))) = some ⟨bS, oS, 0⟩ := rfl
      simp [conc, this]
    · exact blkRel_one h0 k0 (by simp [conc])
  · intro p q L M hp hq h1 h2 e
    have ro : ∀ u, (s1 m tyR tyS).RO u := fun u b hb => s1_ro m tyR tyS u b hb
    cases hb : (s1 m tyR tyS).get p with
    | none => exact absurd hb h1
    | some b => cases hc : (s1 m tyR tyS).get q with
      | none => exact absurd hc h2
      | some c =>
        rcases s1_get hb with ⟨rfl, _⟩ | ⟨rfl, _⟩ | ⟨rfl, _⟩ | ⟨rfl, _⟩ | ⟨rfl, _⟩ <;> rw [rho_of] at hp <;> obtain rfl := Option.some.inj hp <;>
          rcases s1_get hc with ⟨rfl, _⟩ | ⟨rfl, _⟩ | ⟨rfl, _⟩ | ⟨rfl, _⟩ | ⟨rfl, _⟩ <;> rw [rho_of] at hq <;> obtain rfl := Option.some.inj hq <;>
          first
            | exact .inl rfl
            | exact .inr ⟨ro _, ro _, aRS e⟩
            | exact .inr ⟨ro _, ro _, fun e2 => aRS e.symm e2.symm⟩
            | exact absurd e aR0 | exact absurd e aR3 | exact absurd e aR4 | exact absurd e aS0 | exact absurd e aS3 | exact absurd e aS4
            | exact absurd e.symm aR0 | exact absurd e.symm aR3 | exact absurd e.symm aR4 | exact absurd e.symm aS0 | exact absurd e.symm aS3 | exact absurd e.symm aS4
            | (simp at e; done)
  · intro p L hp
    obtain ⟨n, rfl, hn, g1, g2, g3⟩ := rho_at hp
    by_cases h8 : n < 8
    · rw [g1 h8]; exact lt_heap hs h8
    · by_cases e : n = 8
      · rw [g2 e]; exact (Array.getElem?_eq_some_iff.1 hR2).1
      · rw [g3 (by omega)]; exact (Array.getElem?_eq_some_iff.1 hS2).1
  · intro p hp
    cases hb : (s1 m tyR tyS).get p with
    | none => exact absurd hb hp
    | some b =>
      have : (s1 m tyR tyS).nx.num = 11 := ofNat_num 10
      rcases s1_get hb with ⟨rfl, _⟩ | ⟨rfl, _⟩ | ⟨rfl, _⟩ | ⟨rfl, _⟩ | ⟨rfl, _⟩ <;> rw [ofNat_num] <;> omega
  · intro p hp
    rw [ofNat_num] at hp
    exact List.getElem?_eq_none (by simp; omega)
end Go.Ev.R1
