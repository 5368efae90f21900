/- DERIVED. The steps that operations make: nothing, a new block, a block turned, a row moved by append. -/
import Derived.Test.YtllbfabgglneeaaGreatDoorEvRel
import Derived.Laws.Cells
import Derived.Laws.Entries
set_option linter.unusedVariables false
namespace Go.Ev

def Rho.set (ρ : Rho) (p : P2) (L : Loc) : Rho := fun q => if q = p then some L else ρ q
theorem Rho.set_ext {ρ : Rho} {p : P2} (L : Loc) (h : ρ p = none) : Ext' ρ (ρ.set p L) := fun q M hq => by
  unfold Rho.set; split
  · rename_i e; subst e; rw [h] at hq; cases hq
  · exact hq
@[simp] theorem Rho.set_self (ρ : Rho) (p : P2) (L : Loc) : (ρ.set p L) p = some L := by simp [Rho.set]

theorem BlkRel.mono {ρ ρ' : Rho} {L : Loc} {b : Blk} {o : Option Obj} (h : BlkRel ρ L b o) (e : Ext' ρ ρ') : BlkRel ρ' L b o := by
  cases b with
  | cells cs wr sz t =>
    obtain ⟨arr, fr, h1, h2, h3, h4, h5⟩ := h
    exact ⟨arr, fr, h1, h2, fun j x hj => let ⟨v, hv, ha⟩ := h3 j x hj; ⟨v, conc_mono e _ _ hv, ha⟩, h4, h5⟩
  | map es =>
    obtain ⟨arr, clock, h1, h2, h3⟩ := h
    exact ⟨arr, clock, h1, h2, fun j k x hj => let ⟨m, hm, hk, hx⟩ := h3 j k x hj; ⟨m, hm, conc_mono e _ _ hk, conc_mono e _ _ hx⟩⟩
  | iter l n pos => exact h

theorem MemRel.heap {ρ : Rho} {s : St} {w w' : World} (h : MemRel ρ s w) (e : w'.heap = w.heap) : MemRel ρ s w' :=
  ⟨fun p L b hp hb => by rw [e]; exact h.blk p L b hp hb, h.inj, fun p L hp => by rw [e]; exact h.bnd p L hp, h.frs⟩
theorem Step.heap {ρ ρ' : Rho} {s s' : St} {w w1 w2 : World} (h : Step ρ s w ρ' s' w1) (e0 : Turned w1 w2 w1.heap) : Step ρ s w ρ' s' w2 :=
  have e : w2.heap = w1.heap := Turned.heap e0
  ⟨h.ext, h.mem.heap e, by rw [e]; exact h.size, h.nx, h.dom, fun c hc hro => by rw [e]; exact h.frame c hc hro, h.own, (Turned.os e0).trans h.lk.1, (Turned.out e0).trans h.lk.2⟩
/-- Nothing turned but the draws. -/
theorem Step.same {ρ : Rho} {s : St} {w w' : World} (h : MemRel ρ s w) (e : Turned w w' w.heap) : Step ρ s w ρ s w' := (Step.refl h).heap e

theorem St.nx_add (s : St) (b : Blk) : (s.add b).nx.num = s.nx.num + 1 := P2.num_succ _
theorem NoDom.nxt {ρ : Rho} {s : St} {b : Blk} (h : NoDom ρ s (s.add b)) : ρ s.nx = none :=
  h s.nx (Nat.le_refl _) (by rw [St.nx_add]; omega)
theorem MemRel.no_nx {ρ : Rho} {s : St} {w : World} (h : MemRel ρ s w) : s.get s.nx = none := by
  cases hg : s.get s.nx with
  | none => rfl
  | some b => exact absurd (h.frs s.nx (by simp [hg])) (Nat.lt_irrefl _)

theorem Step.add {ρ : Rho} {s : St} {w w' : World} {b : Blk} {o : Obj} (cap : Nat) (h : MemRel ρ s w) (hn : ρ s.nx = none)
    (hw0 : Turned w w' (w.heap.push o)) (hb : BlkRel (ρ.set s.nx ⟨w.heap.size, 0, cap⟩) ⟨w.heap.size, 0, cap⟩ b (some o)) :
    Step ρ s w (ρ.set s.nx ⟨w.heap.size, 0, cap⟩) (s.add b) w' := by
  have hw : w'.heap = _ := Turned.heap hw0
  have hext : Ext' ρ (ρ.set s.nx ⟨w.heap.size, 0, cap⟩) := Rho.set_ext _ hn
  have hold : ∀ c, c < w.heap.size → w'.heap[c]? = w.heap[c]? := fun c hc => by rw [hw, Array.getElem?_push_lt hc, Array.getElem?_eq_getElem hc]
  have hnew : w'.heap[w.heap.size]? = some o := by rw [hw]; simp
  have hset : ∀ p L, (ρ.set s.nx ⟨w.heap.size, 0, cap⟩) p = some L → p = s.nx ∧ L = ⟨w.heap.size, 0, cap⟩ ∨ p ≠ s.nx ∧ ρ p = some L := fun p L hp => by
    unfold Rho.set at hp; split at hp
    · rename_i e; exact .inl ⟨e, (Option.some.inj hp).symm⟩
    · rename_i e; exact .inr ⟨e, hp⟩
  refine ⟨hext, ⟨?_, ?_, ?_, ?_⟩, by rw [hw]; simp, by rw [St.nx_add]; omega, ?_, fun c hc _ => hold c hc, ?_, Turned.os hw0, Turned.out hw0⟩
  · intro p L c hp hc
    rw [St.get_add] at hc
    rcases hset p L hp with ⟨rfl, rfl⟩ | ⟨hne, hp'⟩
    · simp at hc; subst hc; show BlkRel _ _ _ w'.heap[w.heap.size]?; rw [hnew]; exact hb
    · simp [hne] at hc
      rw [hold _ (h.bnd p L hp')]; exact (h.blk p L c hp' hc).mono hext
  · intro p q L M hp hq h1 h2 hLM
    rw [St.get_add] at h1 h2
    rcases hset p L hp with ⟨rfl, rfl⟩ | ⟨hne, hp'⟩ <;> rcases hset q M hq with ⟨rfl, rfl⟩ | ⟨hne', hq'⟩
    · exact .inl rfl
    · have := h.bnd q M hq'; simp at hLM; omega
    · have := h.bnd p L hp'; simp at hLM; omega
    · simp [hne] at h1; simp [hne'] at h2
      exact (h.inj p q L M hp' hq' h1 h2 hLM).imp id fun ⟨a, b, c⟩ => ⟨fun x hx => a x (by rw [St.get_add, if_neg hne] at hx; exact hx), fun x hx => b x (by rw [St.get_add, if_neg hne'] at hx; exact hx), c⟩
  · intro p L hp
    rw [hw]; simp only [Array.size_push]
    rcases hset p L hp with ⟨rfl, rfl⟩ | ⟨_, hp'⟩
    · simp
    · have := h.bnd p L hp'; omega
  · intro p hp
    rw [St.get_add] at hp
    rw [St.nx_add]
    by_cases e : p = s.nx
    · subst e; omega
    · simp [e] at hp; have := h.frs p hp; omega
  · intro p hp
    rw [St.nx_add]
    cases e : (ρ.set s.nx ⟨w.heap.size, 0, cap⟩) p with
    | none => exact absurd e hp
    | some L =>
      rcases hset p L e with ⟨rfl, rfl⟩ | ⟨_, hp'⟩
      · exact .inr ⟨Nat.le_refl _, by omega⟩
      · exact .inl (by simp [hp'])
  · intro p L c hp hc hr hlt
    rw [St.get_add] at hc
    rcases hset p L hp with ⟨rfl, rfl⟩ | ⟨hne, hp'⟩
    · simp at hlt
    · simp [hne] at hc; exact ⟨p, L, c, hp', rfl, hc, hr⟩

theorem Step.put {ρ : Rho} {s : St} {w w' : World} {p : P2} {L : Loc} {b b' : Blk} {o : Obj} (h : MemRel ρ s w) (hp : ρ p = some L) (hs : s.get p = some b) (hr : b.ro = false)
    (hw0 : Turned w w' (w.heap.setIfInBounds L.blk o)) (hb : BlkRel ρ L b' (some o)) : Step ρ s w ρ (s.put p b') w' := by
  have hw : w'.heap = _ := Turned.heap hw0
  have hlt := h.bnd p L hp
  have hold : ∀ c, c ≠ L.blk → w'.heap[c]? = w.heap[c]? := fun c hc => by rw [hw, Array.getElem?_setIfInBounds_ne (Ne.symm hc)]
  have hnew : w'.heap[L.blk]? = some o := by rw [hw, Array.getElem?_setIfInBounds_self_of_lt hlt]
  have live : ∀ q, (s.put p b').get q ≠ none ↔ s.get q ≠ none := fun q => by
    rw [St.get_put]; split
    · rename_i e; subst e; simp [hs]
    · rfl
  refine ⟨.refl ρ, ⟨?_, ?_, ?_, ?_⟩, by rw [hw]; simp, Nat.le_refl _, fun q hq => .inl hq, ?_, ?_, Turned.os hw0, Turned.out hw0⟩
  · intro q M c hq hc
    rw [St.get_put] at hc
    by_cases e : q = p
    · subst e; rw [hp] at hq; cases hq; simp at hc; subst hc; rw [hnew]; exact hb
    · simp [e] at hc
      rw [hold _ (fun e' => (h.inj q p M L hq hp (by simp [hc]) (by simp [hs]) e').elim e fun x => by have := x.2.1 b hs; rw [hr] at this; cases this)]
      exact h.blk q M c hq hc
  · intro q r M N hq hr' h1 h2 e
    refine (h.inj q r M N hq hr' ((live q).1 h1) ((live r).1 h2) e).imp id fun ⟨a1, a2, a3⟩ => ?_
    have g1 : ∀ u, s.RO u → (s.put p b').RO u := fun u hu x hx => by
      rw [St.get_put] at hx
      by_cases eu : u = p
      · subst eu; have := hu b hs; rw [hr] at this; cases this
      · rw [if_neg eu] at hx; exact hu x hx
    exact ⟨g1 q a1, g1 r a2, a3⟩
  · intro q M hq; rw [hw]; simpa using h.bnd q M hq
  · intro q hq; exact h.frs q ((live q).1 hq)
  · intro c hc hro
    refine hold c fun e => ?_
    have := hro p L b hp e.symm hs
    rw [hr] at this; cases this
  · intro q M c hq hc hr' hlt'
    rw [St.get_put] at hc
    by_cases e : q = p
    · subst e; exact ⟨q, L, b, hp, by rw [hp] at hq; cases hq; rfl, hs, hr⟩
    · simp [e] at hc; exact ⟨q, M, c, hq, rfl, hc, hr'⟩

/-- A row that append has grown in place: its elder name goes. -/
theorem Step.moved {ρ : Rho} {s : St} {w w' : World} {p : P2} {L : Loc} {b b' : Blk} {o : Obj} (h : MemRel ρ s w) (hn : ρ s.nx = none) (hp : ρ p = some L) (hs : s.get p = some b) (hr : b.ro = false)
    (hw0 : Turned w w' (w.heap.setIfInBounds L.blk o)) (hb : BlkRel ρ L b' (some o)) :
    Step ρ s w (ρ.set s.nx L) ((s.del p).add b') w' := by
  have hw : w'.heap = _ := Turned.heap hw0
  have hlt := h.bnd p L hp
  have hext : Ext' ρ (ρ.set s.nx L) := Rho.set_ext _ hn
  have hold : ∀ c, c ≠ L.blk → w'.heap[c]? = w.heap[c]? := fun c hc => by rw [hw, Array.getElem?_setIfInBounds_ne (Ne.symm hc)]
  have hnew : w'.heap[L.blk]? = some o := by rw [hw, Array.getElem?_setIfInBounds_self_of_lt hlt]
  have hnx : (s.del p).nx = s.nx := rfl
  have get : ∀ q, ((s.del p).add b').get q = if q = s.nx then some b' else if q = p then none else s.get q := fun q => by
    rw [St.get_add, hnx, St.get_del]
  have hset : ∀ q M, (ρ.set s.nx L) q = some M → q = s.nx ∧ M = L ∨ q ≠ s.nx ∧ ρ q = some M := fun q M hq => by
    unfold Rho.set at hq; split at hq
    · rename_i e; exact .inl ⟨e, (Option.some.inj hq).symm⟩
    · rename_i e; exact .inr ⟨e, hq⟩
  have hnum : ((s.del p).add b').nx.num = s.nx.num + 1 := St.nx_add _ _
  refine ⟨hext, ⟨?_, ?_, ?_, ?_⟩, by rw [hw]; simp, by rw [hnum]; omega, ?_, ?_, ?_, Turned.os hw0, Turned.out hw0⟩
  · intro q M c hq hc
    rw [get] at hc
    rcases hset q M hq with ⟨rfl, rfl⟩ | ⟨hne, hq'⟩
    · simp at hc; subst hc; rw [hnew]; exact hb.mono hext
    · by_cases e : q = p
      · rw [if_neg hne, if_pos e] at hc; cases hc
      · simp [hne, e] at hc
        rw [hold _ (fun e' => (h.inj q p M L hq' hp (by simp [hc]) (by simp [hs]) e').elim e fun x => by have := x.2.1 b hs; rw [hr] at this; cases this)]
        exact (h.blk q M c hq' hc).mono hext
  · intro q r M N hq hr' h1 h2 e
    rw [get] at h1 h2
    rcases hset q M hq with ⟨rfl, rfl⟩ | ⟨hne, hq'⟩ <;> rcases hset r N hr' with ⟨rfl, rfl⟩ | ⟨hne', hr''⟩
    · exact .inl rfl
    · by_cases e2 : r = p
      · rw [if_neg hne', if_pos e2] at h2; exact absurd rfl h2
      · simp [hne', e2] at h2
        exact (h.inj r p N M hr'' hp h2 (by simp [hs]) e.symm).elim (fun x => absurd x e2) fun x => by have := x.2.1 b hs; rw [hr] at this; cases this
    · by_cases e2 : q = p
      · rw [if_neg hne, if_pos e2] at h1; exact absurd rfl h1
      · simp [hne, e2] at h1
        exact (h.inj q p M N hq' hp h1 (by simp [hs]) e).elim (fun x => absurd x e2) fun x => by have := x.2.1 b hs; rw [hr] at this; cases this
    · by_cases e2 : q = p
      · rw [if_neg hne, if_pos e2] at h1; exact absurd rfl h1
      · by_cases e3 : r = p
        · rw [if_neg hne', if_pos e3] at h2; exact absurd rfl h2
        · simp [hne, e2] at h1; simp [hne', e3] at h2
          refine (h.inj q r M N hq' hr'' h1 h2 e).imp id fun ⟨a1, a2, a3⟩ => ⟨fun x hx => a1 x ?_, fun x hx => a2 x ?_, a3⟩
          · rw [get, if_neg hne, if_neg e2] at hx; exact hx
          · rw [get, if_neg hne', if_neg e3] at hx; exact hx
  · intro q M hq
    rw [hw]; simp only [Array.size_setIfInBounds]
    rcases hset q M hq with ⟨rfl, rfl⟩ | ⟨_, hq'⟩
    · exact hlt
    · exact h.bnd q M hq'
  · intro q hq
    rw [get] at hq; rw [hnum]
    by_cases e : q = s.nx
    · subst e; omega
    · by_cases e2 : q = p
      · rw [if_neg e, if_pos e2] at hq; exact absurd rfl hq
      · simp [e, e2] at hq; have := h.frs q hq; omega
  · intro q hq
    rw [hnum]
    cases e : (ρ.set s.nx L) q with
    | none => exact absurd e hq
    | some M =>
      rcases hset q M e with ⟨rfl, rfl⟩ | ⟨_, hq'⟩
      · exact .inr ⟨Nat.le_refl _, by omega⟩
      · exact .inl (by simp [hq'])
  · intro c hc hro
    refine hold c fun e => ?_
    have := hro p L b hp e.symm hs
    rw [hr] at this; cases this
  · intro q M c hq hc hr' hlt'
    rw [get] at hc
    rcases hset q M hq with ⟨rfl, rfl⟩ | ⟨hne, hq'⟩
    · exact ⟨p, M, b, hp, rfl, hs, hr⟩
    · by_cases e : q = p
      · rw [if_neg hne, if_pos e] at hc; cases hc
      · simp [hne, e] at hc; exact ⟨q, M, c, hq', rfl, hc, hr'⟩

/-- A name that goes, and a new row. -/
theorem Step.del {ρ : Rho} {s : St} {w : World} (p : P2) (h : MemRel ρ s w) : Step ρ s w ρ (s.del p) w := by
  have live : ∀ q, (s.del p).get q ≠ none → s.get q ≠ none ∧ q ≠ p := fun q hq => by
    rw [St.get_del] at hq
    by_cases e : q = p
    · simp [e] at hq
    · simp [e] at hq; exact ⟨hq, e⟩
  have get : ∀ q c, (s.del p).get q = some c → s.get q = some c := fun q c hq => by
    rw [St.get_del] at hq
    by_cases e : q = p
    · simp [e] at hq
    · simpa [e] using hq
  exact ⟨.refl ρ, ⟨fun q M c hq hc => h.blk q M c hq (get q c hc), fun q r M N hq hr h1 h2 e => (h.inj q r M N hq hr (live q h1).1 (live r h2).1 e).imp id fun ⟨a1, a2, a3⟩ => ⟨fun x hx => a1 x (get q x hx), fun x hx => a2 x (get r x hx), a3⟩, h.bnd, fun q hq => h.frs q (live q hq).1⟩,
    Nat.le_refl _, Nat.le_refl _, fun q hq => .inl hq, fun _ _ _ => rfl, fun q M c hq hc hr _ => ⟨q, M, c, hq, rfl, get q c hc, hr⟩, rfl, rfl⟩

/-! ### Cells of the model -/
theorem Addr.add_mk (b o n : Nat) : (⟨b, o, none⟩ : Addr).add n = ⟨b, o + n, none⟩ := by unfold Addr.add; split <;> simp_all
theorem cell_of {w : World} {g : Nat} {arr : Array Value} {t : TypeId} {fr : Nat × Nat} (h : w.heap[g]? = some (.cells arr t fr)) (o : Nat) : w.cell? ⟨g, o, none⟩ = arr[o]? := by
  simp [World.cell?, h]
theorem frozen_of {w : World} {g : Nat} {arr : Array Value} {t : TypeId} {fr : Nat × Nat} (h : w.heap[g]? = some (.cells arr t fr)) (o : Nat) : w.frozen? ⟨g, o, none⟩ = (decide (fr.1 ≤ o) && decide (o < fr.2)) := by
  cases fr; simp [World.frozen?, h]
/-- A row of the model's, its cells anew. -/
def rowed (w : World) (g : Nat) (arr : Array Value) (t : TypeId) (fr : Nat × Nat) : World := { w with heap := w.heap.setIfInBounds g (.cells arr t fr) }
theorem rowed_get {w : World} {g : Nat} {arr : Array Value} {t : TypeId} {fr : Nat × Nat} (h : g < w.heap.size) : (rowed w g arr t fr).heap[g]? = some (.cells arr t fr) := by
  simp [rowed, h]
theorem rowed_self {w : World} {g : Nat} {arr : Array Value} {t : TypeId} {fr : Nat × Nat} (h : w.heap[g]? = some (.cells arr t fr)) : rowed w g arr t fr = w := by
  have : w.heap.setIfInBounds g (.cells arr t fr) = w.heap := by
    apply Array.ext_getElem?; intro i
    rw [Array.getElem?_setIfInBounds]
    split
    · rename_i e; subst e; split
      · exact h.symm
      · rename_i hlt; rw [Array.getElem?_eq_none (by omega)]
    · rfl
  simp [rowed, this]
theorem rowed_rowed {w : World} {g : Nat} {a b : Array Value} {t u : TypeId} {fr gr : Nat × Nat} : rowed (rowed w g a t fr) g b u gr = rowed w g b u gr := by
  simp [rowed]
theorem setCell_of {w : World} {g : Nat} {arr : Array Value} {t : TypeId} {fr : Nat × Nat} (h : w.heap[g]? = some (.cells arr t fr)) (o : Nat) (v : Value) :
    w.setCell ⟨g, o, none⟩ v = rowed w g (arr.setIfInBounds o v) t fr := by
  obtain ⟨hlt, he⟩ := Array.getElem?_eq_some_iff.1 h
  simp only [World.setCell, rowed]
  congr 1
  apply Array.ext_getElem?; intro i
  rw [Array.getElem?_modify, Array.getElem?_setIfInBounds]
  split
  · rename_i e; subst e; simp [hlt, he]
  · rfl
theorem run_storeCells' {P : Program} (g o : Nat) (t : TypeId) (fr : Nat × Nat) : ∀ (vs : List Value) (i : Nat) (cur : Array Value) (w : World), w.heap[g]? = some (.cells cur t fr) → o + i + vs.length ≤ cur.size →
    (∀ j, j < cur.size → ¬ (fr.1 ≤ j ∧ j < fr.2)) → (∀ v ∈ vs, v.oneCell' = true) →
    (storeCells ⟨g, o, none⟩ vs i).run P w = .ok () (rowed w g (cur.toList.take (o + i) ++ vs ++ cur.toList.drop (o + i + vs.length)).toArray t fr)
  | [], i, cur, w, hg, _, _, _ => by
    simp only [storeCells, List.append_nil, List.length_nil, Nat.add_zero, List.take_append_drop, Array.toArray_toList]
    rw [rowed_self hg]; rfl
  | v :: r, i, cur, w, hg, hl, hf, h1 => by
    have hlt : g < w.heap.size := (Array.getElem?_eq_some_iff.1 hg).1
    have hlt2 : o + i < cur.size := by simp at hl; omega
    simp only [storeCells, Sem.run_bind, Addr.add_mk]
    rw [run_store P w _ v _ (h1 v (by simp)), cell_of hg, Array.getElem?_eq_getElem hlt2]
    simp only [frozen_of hg]
    have hnf : (decide (fr.1 ≤ o + i) && decide (o + i < fr.2)) = false := by
      have := hf (o + i) hlt2
      simp; omega
    rw [hnf, setCell_of hg]
    simp only [Bool.false_eq_true, if_false, Result.andThen_ok]
    rw [run_storeCells' g o t fr r (i + 1) _ _ (rowed_get hlt) (by simp at hl ⊢; omega) (by simpa using hf) (fun u hu => h1 u (by simp [hu])), rowed_rowed]
    congr 2
    apply congrArg
    apply List.ext_getElem?
    intro j
    simp only [Array.toList_setIfInBounds, List.length_cons, List.getElem?_append, List.length_append, List.length_take, List.length_set, Array.length_toList, List.getElem?_take, List.getElem?_set, List.getElem?_drop, List.getElem?_cons]
    grind
end Go.Ev
