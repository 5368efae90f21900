/- DERIVED. The ideal machine's operations against the model's: parts of structs and rows, lengths. -/
import Derived.Test.YtllbfabgglneeaaGreatDoorEvOps3
import Derived.Laws.Tables
set_option linter.unusedVariables false
namespace Go.Ev
section
variable {P : Program} {C : Ctx} {o : Oper} {v : Env} {s : St} {k : KO}

/-! ### Parts -/
theorem fold_over (off : Nat) : ∀ (l : List Value) (b : Nat) (arr : Array Value), off + b + l.length ≤ arr.size →
    ((l.zipIdx b).foldl (fun (cs : Array Value) (q : Value × Nat) => cs.setIfInBounds (off + q.2) q.1) arr).toList = arr.toList.take (off + b) ++ l ++ arr.toList.drop (off + b + l.length)
  | [], b, arr, _ => by simp
  | c :: r, b, arr, hb => by
    simp only [List.length_cons] at hb
    rw [List.zipIdx_cons, List.foldl_cons, fold_over off r (b + 1) _ (by simp; omega)]
    apply List.ext_getElem?; intro j
    simp only [Array.toList_setIfInBounds, List.length_cons, List.getElem?_append, List.length_append, List.length_take, List.length_set, Array.length_toList, List.getElem?_take, List.getElem?_set, List.getElem?_drop, List.getElem?_cons]
    grind
def partsR (v : Env) : List (Nat × Nat × Od) → List IV → Option (List IV)
  | [], cs => some cs
  | (off, n, x) :: r, cs => match x.den v with
    | some y => if y.cells.length = n ∧ off + n ≤ cs.length then partsR v r (cs.take off ++ y.cells ++ cs.drop (off + n)) else none
    | none => none
theorem partsK_iff (v : Env) : ∀ (l : List (Nat × Nat × Od)) (cs : List IV) (k : List IV → Bool), partsK v l cs k = true ↔ ∃ cs', partsR v l cs = some cs' ∧ k cs' = true
  | [], cs, k => by simp [partsK, partsR]
  | (off, n, x) :: r, cs, k => by
    have hk' : partsK v ((off, n, x) :: r) cs k = getK v x (fun z => cellsK z (fun l => lenK l (fun m => boolK (Nat.beq m n) (overK l cs off (fun cs' => partsK v r cs' k)) false))) := rfl
    rw [hk']
    simp only [getK_iff, cellsK_eq, lenK_eq, boolK_t, overK_iff, Nat.beq_eq, partsR, partsK_iff v r]
    constructor
    · rintro ⟨z, hz, rfl, hle, cs', h1, h2⟩
      exact ⟨cs', by simp only [hz]; rw [if_pos ⟨trivial, hle⟩]; exact h1, h2⟩
    · rintro ⟨cs', h1, h2⟩
      cases hz : x.den v with
      | none => simp [hz] at h1
      | some z =>
        simp only [hz] at h1
        split at h1
        · rename_i hc; obtain ⟨rfl, hle⟩ := hc; exact ⟨z, rfl, rfl, hle, cs', h1, h2⟩
        · cases h1
theorem parts_conc {ρ : Rho} {a : Act} (hg : Glob C ρ) (he : EnvRel ρ v a.tmps) {place place' : Nat → Option (Nat × Nat)} (hp : ∀ i p, place i = some p → place' i = some p) :
    ∀ {ps : List (Nat × Operand)} {l : List (Nat × Nat × Od)}, placed C place ps = some l → ∀ {cs cs' : List IV} {us : List Value}, concs ρ cs = some us → partsR v l cs = some cs' →
    ∃ us', concs ρ cs' = some us' ∧ Instr.fill place' us.toArray (ps.map fun q => (q.1, a.eval q.2)) = some us'.toArray
  | [], l, h, cs, cs', us, hc, hk => by
    simp [placed] at h; subst h; simp [partsR] at hk; subst hk
    exact ⟨us, hc, by simp [Instr.fill]⟩
  | (i, x) :: r, l, h, cs, cs', us, hc, hk => by
    simp only [placed] at h
    cases h1 : place i with
    | none => simp [h1] at h
    | some p => cases h2 : od C x with
      | none => simp [h1, h2] at h
      | some y => cases h3 : placed C place r with
        | none => simp [h1, h2, h3] at h
        | some q =>
          obtain ⟨off, n⟩ := p
          simp [h1, h2, h3] at h; subst h
          simp only [partsR] at hk
          cases hz : y.den v with
          | none => simp [hz] at hk
          | some z =>
            simp only [hz] at hk
            split at hk
            · rename_i hcond
              obtain ⟨rfl, hle⟩ := hcond
              have hcz := cells_conc' (od_conc hg he h2 hz)
              obtain ⟨n1, n2⟩ := (concs_iff _ _ _).1 hc
              obtain ⟨m1, _⟩ := (concs_iff _ _ _).1 hcz
              have m2 : (a.eval x).cells.size = z.cells.length := by simpa using m1
              have hnew : concs ρ (cs.take off ++ z.cells ++ cs.drop (off + z.cells.length)) = some (us.take off ++ (a.eval x).cells.toList ++ us.drop (off + z.cells.length)) :=
                concs_append (concs_append (concs_take hc off) hcz) (concs_drop hc _)
              obtain ⟨us', hu, hfl⟩ := parts_conc hg he hp h3 hnew hk
              refine ⟨us', hu, ?_⟩
              have hsz : us.toArray.size = us.length := List.size_toArray ..
              simp only [List.map_cons, Instr.fill, hp i _ h1]
              rw [if_neg (by simp [m2, hsz]; omega), ← Array.foldl_toList, Array.toList_zipIdx, ← hfl]
              congr 1
              apply Array.ext'
              have := fold_over off (a.eval x).cells.toList 0 us.toArray (by rw [hsz, Array.length_toList, m2]; omega)
              rw [this]
              simp [m2]
            · cases hk
theorem snd_buildA {t e : TypeId} {n : Nat} {i ie : TI} {ps : Array (Nat × Operand)} {l : List (Nat × Nat × Od)} (ho : o.op = .build t ps) (hi : TIok P t i) (hd : i.d = .array n e) (hie : TIok P e ie)
    (hp : placed C (fun j => some (j * ie.size, ie.size)) ps.toList = some l) (h : oBuild i.zero l v s k = true) : ∃ x s', k x s' = true ∧ Snd P C o v s x s' := by
  obtain ⟨cs', h1, hk⟩ := (partsK_iff v l i.zero _).1 h
  refine ⟨_, s, hk, .pure fun ρ a w hg he hm => ?_⟩
  obtain ⟨z, hz, hl, _, _, _⟩ := run_zero hi w
  obtain ⟨us', hu, hfl⟩ := parts_conc hg he (fun _ _ h => h) hp (lits_conc ρ hl) h1
  refine ⟨.agg us'.toArray, w, ?_, rfl, by simp [conc, hu]⟩
  simp only [Array.toArray_toList] at hfl
  simp only [execOp, ho, Instr.build, Sem.run_bind, hz, Result.andThen_ok, run_underlying (und_array hi hd), run_size hie]
  simp [hfl]
theorem snd_buildS {t : TypeId} {fs : List (Nat × TypeId)} {i : TI} {ps : Array (Nat × Operand)} {l : List (Nat × Nat × Od)} (hC : ∀ t i, C.ty t = some i → TIok P t i) (ho : o.op = .build t ps) (hi : TIok P t i) (hd : i.d = .struct fs)
    (hp : placed C (fun j => match fs[j]? with | some (o, u) => (match C u with | some f => some (o, f.size) | none => none) | none => none) ps.toList = some l) (h : oBuild i.zero l v s k = true) : ∃ x s', k x s' = true ∧ Snd P C o v s x s' := by
  obtain ⟨cs', h1, hk⟩ := (partsK_iff v l i.zero _).1 h
  refine ⟨_, s, hk, .pure fun ρ a w hg he hm => ?_⟩
  obtain ⟨z, hz, hl, _, _, _⟩ := run_zero hi w
  obtain ⟨d, hd1, hok⟩ := hi.und
  rw [hd] at hok
  cases d <;> simp [D.ok] at hok
  rename_i gs
  have hall := hi.fld gs hd1
  have hpl : gs.toList.mapM (fun f => (P.info? f.type).map fun i => (f.offset, i.size)) = some (gs.toList.map fun f => (f.offset, ((P.info? f.type).map (·.size)).getD 0)) := by
    have : ∀ (l : List Field), (∀ f ∈ l, ∃ g, P.info? f.type = some g) → l.mapM (fun f => (P.info? f.type).map fun i => (f.offset, i.size)) = some (l.map fun f => (f.offset, ((P.info? f.type).map (·.size)).getD 0)) := by
      intro l
      induction l with
      | nil => intro _; rfl
      | cons f r ih =>
        intro hh
        obtain ⟨g, hg⟩ := hh f (by simp)
        simp [List.mapM_cons, hg, ih (fun f hf => hh f (by simp [hf]))]
    exact this _ hall
  have hrun := run_places w _ _ hpl
  obtain ⟨us', hu, hfl⟩ := parts_conc (place' := fun j => (gs.toList.map fun f => (f.offset, ((P.info? f.type).map (·.size)).getD 0)).toArray[j]?) hg he (by
    intro j p hj
    split at hj
    · rename_i off u hf
      split at hj
      · rename_i f hC'
        simp at hj; subst hj
        rw [← hok, List.getElem?_map] at hf
        cases hq : gs.toList[j]? with
        | none => simp [hq] at hf
        | some fl =>
          simp [hq] at hf
          obtain ⟨g, hg', hsz, _⟩ := (hC u f hC').info
          simp only [List.getElem?_toArray, List.getElem?_map, hq]
          simp [hf.1, hf.2, hg', hsz]
      · cases hj
    · cases hj) hp (lits_conc ρ hl) h1
  refine ⟨.agg us'.toArray, w, ?_, rfl, by simp [conc, hu]⟩
  simp only [Array.toArray_toList] at hfl
  simp only [execOp, ho, Instr.build, Sem.run_bind, hz, Result.andThen_ok, run_underlying hd1]
  simp at hfl
  simp [Array.mapM_eq_mapM_toList, hrun, hfl]
theorem reps_length {α : Type} (n : Nat) (l : List α) : (reps n l).length = n * l.length := by
  induction n with
  | zero => simp [reps]
  | succ n ih => simp [reps, ih, Nat.succ_mul]; omega
theorem reps_get {α : Type} [Inhabited α] (l : List α) (hl : 0 < l.length) : ∀ (n j : Nat), j < n * l.length → (reps n l)[j]? = some (l[j % l.length]!)
  | 0, j, h => by simp at h
  | n + 1, j, h => by
    simp only [reps]
    by_cases hj : j < l.length
    · rw [List.getElem?_append_left hj, Nat.mod_eq_of_lt hj, List.getElem?_eq_getElem hj]; simp [hj]
    · rw [List.getElem?_append_right (by omega), reps_get l hl n (j - l.length) (by rw [Nat.succ_mul] at h; omega)]
      rw [← Nat.mod_eq_sub_mod (by omega)]
theorem times_reps {α : Type} (l : List α) (n : Nat) : times l n = reps n l := by induction n <;> simp [times, reps, *]
theorem concs_reps {ρ : Rho} {l : List IV} {us : List Value} (h : concs ρ l = some us) : ∀ n, concs ρ (reps n l) = some (reps n us)
  | 0 => rfl
  | n + 1 => concs_append h (concs_reps h n)
/-- A row of zeros, as the model makes it. -/
theorem zeros_eq (z : Array Value) (n : Nat) (hz : 0 < z.size) : ((Array.range (n * z.size)).map (z[· % z.size]!)) = (reps n z.toList).toArray := by
  apply Array.ext'
  rw [Array.toList_map, Array.toList_range, List.toList_toArray]
  apply List.ext_getElem?; intro j
  rw [List.getElem?_map]
  by_cases hj : j < n * z.size
  · rw [List.getElem?_range hj, reps_get z.toList (by simpa using hz) n j (by simpa using hj)]
    have hlt : j % z.size < z.size := Nat.mod_lt _ hz
    simp [hlt]
  · rw [List.getElem?_eq_none (by simp; omega), List.getElem?_eq_none (by rw [reps_length]; simp; omega)]; rfl
theorem snd_bslice {t e : TypeId} {len : Nat} {i ie : TI} {ps : Array (Nat × Operand)} {l : List (Nat × Nat × Od)} (ho : o.op = .buildSlice t len ps) (hi : TIok P t i) (hd : i.d = .slice e) (hie : TIok P e ie) (hlen : len * ie.size ≤ 2 ^ 20) (hsz : 0 < ie.size)
    (hp : placed C (fun j => some (j * ie.size, ie.size)) ps.toList = some l) (h : oBslice len (reps len ie.zero) l e v s k = true) : ∃ x s', k x s' = true ∧ Snd P C o v s x s' := by
  simp only [oBslice, partsK_iff, newB_eq] at h
  obtain ⟨cs', h1, hk⟩ := h
  refine ⟨_, _, hk, by rw [St.nx_add]; omega, fun ρ a w hg he hm hn => ?_⟩
  obtain ⟨z, hz, hl, hzl, _, _⟩ := run_zero hie w
  have hc := lits_conc ρ hl
  obtain ⟨us', hu, hfl⟩ := parts_conc hg he (fun _ _ h => h) hp (concs_reps hc len) h1
  refine .value (x := .slice (some ⟨w.heap.size, 0, none⟩) len len) (w' := { w with heap := w.heap.push (.cells us'.toArray e) }) ?_ ⟨_, by simp [conc, ICap.of], Step.add 0 hm hn.nxt rfl (.row (concs_mono (Rho.set_ext _ hn.nxt) _ _ (by simpa using hu)))⟩
  have hno : ¬ (len * ie.size > 2 ^ 24) := by omega
  simp only [execOp, ho, Instr.buildSlice, Sem.run_bind, run_underlying (und_slice hi hd), Result.andThen_ok, run_size hie]
  by_cases h0 : len * ie.size = 0
  · have : len = 0 := by rcases Nat.mul_eq_zero.1 h0 with h | h <;> omega
    subst this
    have hr : Array.range 0 = #[] := rfl
    simp [reps] at hfl
    simp [hr, hfl, newRow]
  · have hzz := zeros_eq z.cells len (by omega)
    rw [hzl] at hzz
    simp [hno, h0, hz, hzl, hzz, hfl, newRow]
end
end Go.Ev
