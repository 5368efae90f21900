/- DERIVED. What the ideal machine's values and memory say of the model's: 'conc', 'MemRel', 'Step'; and what its eliminators tell. -/
import Derived.Test.YtllbfabgglneeaaGreatDoorEvComp
set_option linter.unusedVariables false
namespace Go.Ev

/-! ### What the eliminators tell -/
section lists
variable {α : Type}
theorem nthK_iff (l : List α) (n : Nat) (k : α → Bool) : nthK l n k = true ↔ ∃ x, l[n]? = some x ∧ k x = true := by
  induction l generalizing n with
  | nil => simp [nthK]
  | cons x xs ih =>
    cases n with
    | zero => exact ⟨fun h => ⟨x, rfl, h⟩, fun ⟨y, hy, h⟩ => by simp at hy; subst hy; exact h⟩
    | succ n => exact ih n
theorem updK_iff (v : α) (l : List α) (n : Nat) (k : List α → Bool) : updK v l n k = true ↔ n < l.length ∧ k (l.set n v) = true := by
  induction l generalizing n k with
  | nil => simp [updK]
  | cons x xs ih =>
    cases n with
    | zero => exact ⟨fun h => ⟨by simp, h⟩, fun h => h.2⟩
    | succ n =>
      have h1 : updK v (x :: xs) (n + 1) k = updK v xs n (fun r => k (x :: r)) := rfl
      rw [h1, ih]; simp
theorem dropK_iff (l : List α) (n : Nat) (k : List α → Bool) : dropK l n k = true ↔ n ≤ l.length ∧ k (l.drop n) = true := by
  induction l generalizing n with
  | nil =>
    cases n with
    | zero => exact ⟨fun h => ⟨Nat.le_refl _, h⟩, fun h => h.2⟩
    | succ n => simp [dropK]
  | cons x xs ih =>
    cases n with
    | zero => exact ⟨fun h => ⟨by simp, h⟩, fun h => h.2⟩
    | succ n =>
      have h1 : dropK (x :: xs) (n + 1) k = dropK xs n k := rfl
      rw [h1, ih]; simp
theorem takeK_iff (l : List α) (n : Nat) (k : List α → Bool) : takeK l n k = true ↔ n ≤ l.length ∧ k (l.take n) = true := by
  induction l generalizing n k with
  | nil =>
    cases n with
    | zero => exact ⟨fun h => ⟨Nat.le_refl _, h⟩, fun h => h.2⟩
    | succ n => simp [takeK]
  | cons x xs ih =>
    cases n with
    | zero => exact ⟨fun h => ⟨by simp, h⟩, fun h => h.2⟩
    | succ n =>
      have h1 : takeK (x :: xs) (n + 1) k = takeK xs n (fun r => k (x :: r)) := rfl
      rw [h1, ih]; simp
@[simp] theorem appK_eq (l r : List α) (k : List α → Bool) : appK l r k = k (l ++ r) := by
  induction l generalizing k with
  | nil => rfl
  | cons x xs ih => exact ih _
theorem over0K_iff (vs l : List α) (k : List α → Bool) : over0K vs l k = true ↔ vs.length ≤ l.length ∧ k (vs ++ l.drop vs.length) = true := by
  induction vs generalizing l k with
  | nil => simp [over0K]
  | cons v vs ih =>
    cases l with
    | nil => simp [over0K]
    | cons x xs =>
      have h1 : over0K (v :: vs) (x :: xs) k = over0K vs xs (fun r => k (v :: r)) := rfl
      rw [h1, ih]; simp
theorem overK_iff (vs l : List α) (n : Nat) (k : List α → Bool) : overK vs l n k = true ↔ n + vs.length ≤ l.length ∧ k (l.take n ++ vs ++ l.drop (n + vs.length)) = true := by
  induction l generalizing n k with
  | nil =>
    cases n with
    | zero => have h1 : overK vs ([] : List α) 0 k = over0K vs [] k := rfl
              rw [h1, over0K_iff]; simp
    | succ n => simp [overK]
  | cons x xs ih =>
    cases n with
    | zero => have h1 : overK vs (x :: xs) 0 k = over0K vs (x :: xs) k := rfl
              rw [h1, over0K_iff]; simp
    | succ n =>
      have h1 : overK vs (x :: xs) (n + 1) k = overK vs xs n (fun r => k (x :: r)) := rfl
      rw [h1, ih]
      have : n + 1 + vs.length = (n + vs.length) + 1 := by omega
      simp [this]
@[simp] theorem lenL_eq (l : List α) : lenL l = l.length := by
  induction l with
  | nil => rfl
  | cons x xs ih => show Nat.succ (lenL xs) = _; rw [ih]; rfl
@[simp] theorem natK_eq (n : Nat) (k : Nat → Bool) : natK n k = k n := by cases n <;> rfl
@[simp] theorem lenK_eq (l : List α) (k : Nat → Bool) : lenK l k = k l.length := by simp [lenK]
theorem boolK_iff (b t f : Bool) : boolK b t f = true ↔ (b = true ∧ t = true) ∨ (b = false ∧ f = true) := by cases b <;> simp [boolK]
theorem boolK_t (b t : Bool) : boolK b t false = true ↔ b = true ∧ t = true := by cases b <;> simp [boolK]
theorem boolK_f (b f : Bool) : boolK b false f = true ↔ b = false ∧ f = true := by cases b <;> simp [boolK]
theorem eraseK_iff (l : List α) (n : Nat) (k : List α → Bool) : eraseK l n k = true ↔ n < l.length ∧ k (l.eraseIdx n) = true := by
  induction l generalizing n k with
  | nil => simp [eraseK]
  | cons x xs ih =>
    cases n with
    | zero => exact ⟨fun h => ⟨by simp, h⟩, fun h => h.2⟩
    | succ n =>
      have h1 : eraseK (x :: xs) (n + 1) k = eraseK xs n (fun r => k (x :: r)) := rfl
      rw [h1, ih]; simp
/-- So many times a list. -/
def times (l : List α) : Nat → List α
  | 0 => []
  | n + 1 => l ++ times l n
theorem repK_eq (l : List α) (n : Nat) (k : List α → Bool) : repK l n k = k (times l n) := by
  induction n generalizing k with
  | zero => rfl
  | succ n ih =>
    have h1 : repK l (n + 1) k = repK l n (fun r => appK l r k) := rfl
    rw [h1, ih]; simp [times]
theorem optK_iff (x : Option α) (k : α → Bool) : optK x k = true ↔ ∃ y, x = some y ∧ k y = true := by cases x <;> simp [optK]
end lists

theorem asBool_iff (x : IV) (k) : asBool x k = true ↔ ∃ b, x = .bool b ∧ k b = true := by cases x <;> simp [asBool]
theorem asInt_iff (x : IV) (k) : asInt x k = true ↔ ∃ t n, x = .int t n ∧ k t n = true := by cases x <;> simp [asInt, and_assoc]
theorem asStr_iff (x : IV) (k) : asStr x k = true ↔ ∃ l n, x = .str l n ∧ k l n = true := by cases x <;> simp [asStr, and_assoc]
theorem asPtr_iff (x : IV) (k) : asPtr x k = true ↔ ∃ p o, x = .ptr p o ∧ k p o = true := by cases x <;> simp [asPtr, and_assoc]
theorem asSl_iff (x : IV) (z k) : asSl x z k = true ↔ (x = .nilsl ∧ z = true) ∨ ∃ p o l c, x = .sl p o l c ∧ k p o l c = true := by cases x <;> simp [asSl, and_assoc]
theorem asMap_iff (x : IV) (z k) : asMap x z k = true ↔ (x = .nilmap ∧ z = true) ∨ ∃ p, x = .map p ∧ k p = true := by cases x <;> simp [asMap]
theorem asFn_iff (x : IV) (k) : asFn x k = true ↔ ∃ f a b, x = .fn f a b ∧ k f a b = true := by cases x <;> simp [asFn, and_assoc]
theorem asIfc_iff (x : IV) (z k) : asIfc x z k = true ↔ (x = .nili ∧ z = true) ∨ ∃ t v, x = .iface t v ∧ k t v = true := by cases x <;> simp [asIfc, and_assoc]
theorem asAgg_iff (x : IV) (k) : asAgg x k = true ↔ ∃ l, x = .agg l ∧ k l = true := by cases x <;> simp [asAgg]
theorem asTup_iff (x : IV) (k) : asTup x k = true ↔ ∃ l, x = .tup l ∧ k l = true := by cases x <;> simp [asTup]
def IV.cells : IV → List IV
  | .agg cs => cs
  | x => [x]
@[simp] theorem cellsK_eq (x : IV) (k) : cellsK x k = k x.cells := by cases x <;> rfl
/-- May a value stand in one cell? -/
def IV.lone : IV → Bool
  | .agg _ | .tup _ => false
  | _ => true
theorem isCell_iff (x : IV) (k : Bool) : isCell x k = true ↔ x.lone = true ∧ k = true := by cases x <;> simp [isCell, IV.lone]
theorem areCells_iff (l : List IV) (k : Bool) : areCells l k = true ↔ (∀ x ∈ l, x.lone = true) ∧ k = true := by
  induction l with
  | nil => simp [areCells]
  | cons x xs ih =>
    have h1 : areCells (x :: xs) k = isCell x (areCells xs k) := rfl
    rw [h1, isCell_iff, ih]; simp [and_assoc]
theorem nilckK_iff (x : IV) (k) : nilckK x k = true ↔ (∃ p o, x = .ptr p o ∧ k x = true) ∨ (∃ f a b, x = .fn f a b ∧ k x = true) ∨ (∃ t v, x = .iface t v ∧ k x = true) := by
  cases x <;> simp [nilckK]
theorem guardV_iff (x : IV) (z k) : guardV x z k = true ↔ (∃ b, x = .bool b ∧ k b = true) ∨ (x = .tup [] ∧ z = true) := by
  cases x with
  | tup l => cases l <;> simp [guardV]
  | _ => simp [guardV]
theorem kindEq_iff (a b : IntKind) : kindEq a b = true ↔ a = b := by cases a <;> cases b <;> simp [kindEq, kindNo]
@[simp] theorem intF_eq (n : Int) (k : Int → Bool) : intF n k = k n := by cases n <;> simp [intF]

/-! ### Memory as a function -/
def P2.num : P2 → Nat
  | .e => 1
  | .o p => 2 * p.num
  | .i p => 2 * p.num + 1
theorem P2.num_pos (p : P2) : 0 < p.num := by induction p <;> simp [P2.num] <;> omega
theorem P2.num_inj : ∀ {p q : P2}, p.num = q.num → p = q
  | .e, .e, _ => rfl
  | .e, .o q, h => by simp [P2.num] at h; omega
  | .e, .i q, h => by have := q.num_pos; simp [P2.num] at h; omega
  | .o p, .e, h => by simp [P2.num] at h; omega
  | .i p, .e, h => by have := p.num_pos; simp [P2.num] at h; omega
  | .o p, .o q, h => by simp only [P2.num] at h; rw [P2.num_inj (p := p) (q := q) (by omega)]
  | .i p, .i q, h => by simp only [P2.num] at h; rw [P2.num_inj (p := p) (q := q) (by omega)]
  | .o p, .i q, h => by simp [P2.num] at h; omega
  | .i p, .o q, h => by simp [P2.num] at h; omega
theorem P2.num_succ (p : P2) : p.succ.num = p.num + 1 := by induction p <;> simp [P2.succ, P2.num, *] <;> omega
theorem succK_eq (p : P2) (k : P2 → Bool) : succK p k = k p.succ := by
  induction p generalizing k with
  | e => rfl
  | o p _ => rfl
  | i p ih => exact ih _
def tget : Tr → P2 → Option Blk
  | .leaf, _ => none
  | .node l v r, p => match p with
    | .e => v
    | .o q => tget l q
    | .i q => tget r q
def tone (x : Option Blk) : P2 → Tr
  | .e => .node .leaf x .leaf
  | .o q => .node (tone x q) none .leaf
  | .i q => .node .leaf none (tone x q)
def tset (x : Option Blk) : Tr → P2 → Tr
  | .leaf, p => tone x p
  | .node l v r, p => match p with
    | .e => .node l x r
    | .o q => .node (tset x l q) v r
    | .i q => .node l v (tset x r q)
theorem getM_iff (m : Tr) (p : P2) (k) : getM m p k = true ↔ ∃ b, tget m p = some b ∧ k b = true := by
  induction m generalizing p with
  | leaf => simp [getM, tget]
  | node l v r ihl ihr =>
    cases p with
    | e => show Option.rec (motive := fun _ => Bool) false k v = true ↔ _
           cases v <;> simp [tget]
    | o q => exact ihl q
    | i q => exact ihr q
theorem oneM_eq (x : Option Blk) (p : P2) (k) : oneM x p k = k (tone x p) := by
  induction p generalizing k with
  | e => rfl
  | o q ih => exact ih _
  | i q ih => exact ih _
theorem setM_eq (x : Option Blk) (m : Tr) (p : P2) (k) : setM x m p k = k (tset x m p) := by
  induction m generalizing p k with
  | leaf => exact oneM_eq x p k
  | node l v r ihl ihr =>
    cases p with
    | e => rfl
    | o q => exact ihl q _
    | i q => exact ihr q _
theorem tget_tone (x : Option Blk) : ∀ (p q : P2), tget (tone x p) q = if q = p then x else none
  | .e, .e => rfl
  | .e, .o q => by simp [tone, tget]
  | .e, .i q => by simp [tone, tget]
  | .o p, .e => by simp [tone, tget]
  | .o p, .o q => by simp [tone, tget, tget_tone x p q]
  | .o p, .i q => by simp [tone, tget]
  | .i p, .e => by simp [tone, tget]
  | .i p, .o q => by simp [tone, tget]
  | .i p, .i q => by simp [tone, tget, tget_tone x p q]
theorem tget_tset (x : Option Blk) : ∀ (m : Tr) (p q : P2), tget (tset x m p) q = if q = p then x else tget m q
  | .leaf, p, q => by simp [tset, tget_tone, tget]
  | .node l v r, .e, .e => by simp [tset, tget]
  | .node l v r, .e, .o q => by simp [tset, tget]
  | .node l v r, .e, .i q => by simp [tset, tget]
  | .node l v r, .o p, .e => by simp [tset, tget]
  | .node l v r, .o p, .o q => by simp [tset, tget, tget_tset x l p q]
  | .node l v r, .o p, .i q => by simp [tset, tget]
  | .node l v r, .i p, .e => by simp [tset, tget]
  | .node l v r, .i p, .o q => by simp [tset, tget]
  | .node l v r, .i p, .i q => by simp [tset, tget, tget_tset x r p q]
def St.get (s : St) (p : P2) : Option Blk := tget s.m p
def St.put (s : St) (p : P2) (b : Blk) : St := ⟨tset (some b) s.m p, s.nx⟩
def St.del (s : St) (p : P2) : St := ⟨tset none s.m p, s.nx⟩
def St.add (s : St) (b : Blk) : St := ⟨tset (some b) s.m s.nx, s.nx.succ⟩
theorem St.get_put (s : St) (p q : P2) (b : Blk) : (s.put p b).get q = if q = p then some b else s.get q := tget_tset _ _ _ _
theorem St.get_del (s : St) (p q : P2) : (s.del p).get q = if q = p then none else s.get q := tget_tset _ _ _ _
theorem St.get_add (s : St) (q : P2) (b : Blk) : (s.add b).get q = if q = s.nx then some b else s.get q := tget_tset _ _ _ _
@[simp] theorem stK_eq (s : St) (k) : stK s k = k s.m s.nx := by cases s; rfl
@[simp] theorem putB_eq (s : St) (p : P2) (b : Blk) (k) : putB s p b k = k (s.put p b) := by simp [putB, setM_eq, St.put]
@[simp] theorem newB_eq (s : St) (b : Blk) (k) : newB s b k = k s.nx (s.add b) := by simp [newB, setM_eq, succK_eq, St.add]
@[simp] theorem delB_eq (s : St) (p : P2) (k) : delB s p k = k (s.del p) := by simp [delB, setM_eq, St.del]
theorem cellsB_iff (b : Blk) (k) : cellsB b k = true ↔ ∃ cs wr sz t, b = .cells cs wr sz t ∧ k cs wr sz t = true := by
  cases b with
  | cells cs wr sz t => exact ⟨fun h => ⟨cs, wr, sz, t, rfl, h⟩, fun ⟨_, _, _, _, e, h⟩ => by cases e; exact h⟩
  | _ => simp [cellsB]
theorem mapB_iff (b : Blk) (k) : mapB b k = true ↔ ∃ es, b = .map es ∧ k es = true := by cases b <;> simp [mapB]
theorem iterB_iff (b : Blk) (k) : iterB b k = true ↔ ∃ l n p, b = .iter l n p ∧ k l n p = true := by cases b <;> simp [iterB, and_assoc]
theorem getC_iff (s : St) (p : P2) (k) : getC s p k = true ↔ ∃ cs wr sz t, s.get p = some (.cells cs wr sz t) ∧ k cs wr sz t = true := by
  simp only [getC, stK_eq, getM_iff, cellsB_iff, St.get]
  constructor
  · rintro ⟨b, hb, cs, wr, sz, t, rfl, h⟩; exact ⟨cs, wr, sz, t, hb, h⟩
  · rintro ⟨cs, wr, sz, t, hb, h⟩; exact ⟨_, hb, cs, wr, sz, t, rfl, h⟩
theorem getMap_iff (s : St) (p : P2) (k) : getMap s p k = true ↔ ∃ es, s.get p = some (.map es) ∧ k es = true := by
  simp only [getMap, stK_eq, getM_iff, mapB_iff, St.get]
  constructor
  · rintro ⟨b, hb, es, rfl, h⟩; exact ⟨es, hb, h⟩
  · rintro ⟨es, hb, h⟩; exact ⟨_, hb, es, rfl, h⟩

/-! ### Operands -/
/-- A temporary. -/
def Env.at (v : Env) (t : Nat) : Option IV := (v[t / 8]?).bind (·[t % 8]?)
def Od.den (v : Env) : Od → Option IV
  | .t a b => (v[a]?).bind (·[b]?)
  | .c x => some x
theorem getK_iff (v : Env) (x : Od) (k) : getK v x k = true ↔ ∃ y, x.den v = some y ∧ k y = true := by
  cases x with
  | t a b =>
    show nthK v a (fun l => nthK l b k) = true ↔ _
    simp only [nthK_iff, Od.den]
    constructor
    · rintro ⟨l, hl, y, hy, h⟩; exact ⟨y, by simp [hl, hy], h⟩
    · rintro ⟨y, hy, h⟩
      cases hl : v[a]? with
      | none => simp [hl] at hy
      | some l => simp [hl] at hy; exact ⟨l, rfl, y, hy, h⟩
  | c x => simp [getK, Od.den]
def dens (v : Env) : List Od → Option (List IV)
  | [] => some []
  | x :: r => match x.den v, dens v r with
    | some a, some b => some (a :: b)
    | _, _ => none
theorem getsK_iff (v : Env) (l : List Od) (k) : getsK v l k = true ↔ ∃ ys, dens v l = some ys ∧ k ys = true := by
  induction l generalizing k with
  | nil => simp [getsK, dens]
  | cons x r ih =>
    have h1 : getsK v (x :: r) k = getK v x (fun y => getsK v r (fun q => k (y :: q))) := rfl
    rw [h1, getK_iff]
    constructor
    · rintro ⟨y, hy, h⟩
      obtain ⟨ys, hys, h⟩ := (ih _).1 h
      exact ⟨y :: ys, by simp [dens, hy, hys], h⟩
    · rintro ⟨ys, hys, h⟩
      cases hy : x.den v with
      | none => simp [dens, hy] at hys
      | some y =>
        cases hr : dens v r with
        | none => simp [dens, hy, hr] at hys
        | some q => simp [dens, hy, hr] at hys; subst hys; exact ⟨y, rfl, (ih _).2 ⟨q, hr, h⟩⟩

/-! ### What stands for what -/
structure Loc where
  blk : Nat
  base : Nat
  cap : Nat
abbrev Rho := P2 → Option Loc
def ICap.of (c : ICap) (cap : Nat) : Nat := match c with
  | .is n => n
  | .till lo => cap - lo
mutual
def conc (ρ : Rho) : IV → Option Value
  | .bool b => some (.bool b)
  | .int k n => some (.int k n)
  | .str l n => some (.string (strB l n))
  | .ptr p o => (ρ p).map fun L => .pointer (some ⟨L.blk, L.base + o, none⟩)
  | .nilp => some (.pointer none)
  | .sl p o l c => (ρ p).map fun L => .slice (some ⟨L.blk, L.base + o, none⟩) l (c.of L.cap)
  | .nilsl => some (.slice none 0 0)
  | .map p => (ρ p).map fun L => .map (some L.blk)
  | .nilmap => some (.map none)
  | .fn f a b => match concs ρ a, concs ρ b with
    | some x, some y => some (.func (.func f) x.toArray y.toArray)
    | _, _ => none
  | .nilfn => some .nilFunc
  | .iface t v => (conc ρ v).map fun x => .iface t x
  | .nili => some .nilIface
  | .agg cs => (concs ρ cs).map fun l => .agg l.toArray
  | .tup vs => (concs ρ vs).map fun l => .tuple l.toArray
def concs (ρ : Rho) : List IV → Option (List Value)
  | [] => some []
  | x :: r => match conc ρ x, concs ρ r with
    | some a, some b => some (a :: b)
    | _, _ => none
end
def Ext' (ρ ρ' : Rho) : Prop := ∀ p L, ρ p = some L → ρ' p = some L
theorem Ext'.refl (ρ : Rho) : Ext' ρ ρ := fun _ _ h => h
theorem Ext'.trans {a b c : Rho} (h : Ext' a b) (g : Ext' b c) : Ext' a c := fun p L e => g p L (h p L e)
mutual
theorem conc_mono {ρ ρ' : Rho} (h : Ext' ρ ρ') : ∀ (x : IV) (v : Value), conc ρ x = some v → conc ρ' x = some v
  | .bool _, _, e | .int _ _, _, e | .str _ _, _, e | .nilp, _, e | .nilsl, _, e | .nilmap, _, e | .nilfn, _, e | .nili, _, e => by simpa [conc] using e
  | .ptr p o, v, e | .sl p o _ _, v, e | .map p, v, e => by
    simp only [conc, Option.map_eq_some_iff] at e ⊢
    obtain ⟨L, hL, e⟩ := e
    exact ⟨L, h _ _ hL, e⟩
  | .fn f a b, v, e => by
    simp only [conc] at e ⊢
    cases ha : concs ρ a with
    | none => simp [ha] at e
    | some x => cases hb : concs ρ b with
      | none => simp [ha, hb] at e
      | some y => simp [ha, hb] at e; simp [concs_mono h a x ha, concs_mono h b y hb, e]
  | .iface t x, v, e => by
    simp only [conc, Option.map_eq_some_iff] at e ⊢
    obtain ⟨y, hy, e⟩ := e
    exact ⟨y, conc_mono h x y hy, e⟩
  | .agg l, v, e | .tup l, v, e => by
    simp only [conc, Option.map_eq_some_iff] at e ⊢
    obtain ⟨y, hy, e⟩ := e
    exact ⟨y, concs_mono h l y hy, e⟩
theorem concs_mono {ρ ρ' : Rho} (h : Ext' ρ ρ') : ∀ (l : List IV) (v : List Value), concs ρ l = some v → concs ρ' l = some v
  | [], v, e => by simpa [concs] using e
  | x :: r, v, e => by
    simp only [concs] at e ⊢
    cases ha : conc ρ x with
    | none => simp [ha] at e
    | some a => cases hb : concs ρ r with
      | none => simp [ha, hb] at e
      | some b => simp [ha, hb] at e; simp [conc_mono h x a ha, concs_mono h r b hb, e]
end
theorem concs_iff (ρ : Rho) (l : List IV) (vs : List Value) : concs ρ l = some vs ↔ vs.length = l.length ∧ ∀ (j : Nat) (x : IV), l[j]? = some x → ∃ v, vs[j]? = some v ∧ conc ρ x = some v := by
  induction l generalizing vs with
  | nil => simp [concs]
  | cons x r ih =>
    constructor
    · intro e
      simp only [concs] at e
      cases ha : conc ρ x with
      | none => simp [ha] at e
      | some a => cases hb : concs ρ r with
        | none => simp [ha, hb] at e
        | some b =>
          simp [ha, hb] at e; subst e
          obtain ⟨h1, h2⟩ := (ih b).1 hb
          refine ⟨by simp [h1], fun j y hj => ?_⟩
          cases j with
          | zero => simp at hj; subst hj; exact ⟨a, rfl, ha⟩
          | succ j => exact h2 j y (by simpa using hj)
    · rintro ⟨h1, h2⟩
      cases vs with
      | nil => simp at h1
      | cons a b =>
        obtain ⟨v, hv, hx⟩ := h2 0 x rfl
        simp at hv; subst hv
        have hb := (ih b).2 ⟨by simpa using h1, fun j y hj => h2 (j + 1) y (by simpa using hj)⟩
        simp [concs, hx, hb]
theorem concs_append {ρ : Rho} {a b : List IV} {x y : List Value} (ha : concs ρ a = some x) (hb : concs ρ b = some y) : concs ρ (a ++ b) = some (x ++ y) := by
  induction a generalizing x with
  | nil => simp [concs] at ha; subst ha; simpa using hb
  | cons c r ih =>
    simp only [concs] at ha
    cases hc : conc ρ c with
    | none => simp [hc] at ha
    | some c' => cases hr : concs ρ r with
      | none => simp [hc, hr] at ha
      | some r' => simp [hc, hr] at ha; subst ha; simp [concs, hc, ih hr]
theorem concs_drop {ρ : Rho} {a : List IV} {x : List Value} (h : concs ρ a = some x) (n : Nat) : concs ρ (a.drop n) = some (x.drop n) := by
  rw [concs_iff] at h ⊢
  exact ⟨by simp [h.1], fun j y hj => by rw [List.getElem?_drop] at hj ⊢; exact h.2 _ _ hj⟩
theorem concs_take {ρ : Rho} {a : List IV} {x : List Value} (h : concs ρ a = some x) (n : Nat) : concs ρ (a.take n) = some (x.take n) := by
  rw [concs_iff] at h ⊢
  refine ⟨by simp [h.1], fun j y hj => ?_⟩
  rw [List.getElem?_take] at hj ⊢
  split at hj
  · rename_i hlt; simp only [hlt, if_true]; exact h.2 _ _ hj
  · cases hj
theorem concs_all {ρ : Rho} {l : List IV} (h : ∀ x ∈ l, ∃ v, conc ρ x = some v) : ∃ vs, concs ρ l = some vs := by
  induction l with
  | nil => exact ⟨[], rfl⟩
  | cons x r ih =>
    obtain ⟨v, hv⟩ := h x (by simp)
    obtain ⟨vs, hvs⟩ := ih fun y hy => h y (by simp [hy])
    exact ⟨v :: vs, by simp [concs, hv, hvs]⟩
theorem concs_mem {ρ : Rho} {l : List IV} {vs : List Value} (h : concs ρ l = some vs) {x : IV} (hx : x ∈ l) : ∃ v, v ∈ vs ∧ conc ρ x = some v := by
  obtain ⟨j, hj⟩ := List.getElem?_of_mem hx
  obtain ⟨v, hv, hc⟩ := ((concs_iff _ _ _).1 h).2 j x hj
  exact ⟨v, List.mem_of_getElem? hv, hc⟩
/-- One cell's value. -/
def oneC : Value → Bool
  | .agg _ | .tuple _ => false
  | _ => true
theorem conc_lone {ρ : Rho} {x : IV} {v : Value} (h : conc ρ x = some v) (hx : x.lone = true) : oneC v = true := by
  cases x <;> simp [IV.lone] at hx <;> simp only [conc] at h
  case fn f a b =>
    cases ha : concs ρ a <;> cases hb : concs ρ b <;> simp [ha, hb] at h
    subst h; rfl
  all_goals
    first
      | (simp only [Option.map_eq_some_iff] at h; obtain ⟨L, -, rfl⟩ := h; rfl)
      | (simp at h; subst h; rfl)
theorem conc_cells {ρ : Rho} {x : IV} {v : Value} (h : conc ρ x = some v) (hx : x.lone = true ∨ ∃ l, x = .agg l) : concs ρ x.cells = some v.cells.toList := by
  rcases hx with hx | ⟨l, rfl⟩
  · have h1 : x.cells = [x] := by cases x <;> simp [IV.lone] at hx <;> rfl
    have h2 : v.cells = #[v] := by have := conc_lone h hx; cases v <;> simp [oneC] at this <;> rfl
    simp [h1, h2, concs, h]
  · simp only [conc, Option.map_eq_some_iff] at h
    obtain ⟨y, hy, rfl⟩ := h
    simpa [IV.cells, Value.cells] using hy

/-! ### Worlds -/
def Blk.ro : Blk → Bool
  | .cells _ wr _ _ => !wr
  | _ => false
/-- What a block says of the model's. -/
def BlkRel (ρ : Rho) (L : Loc) (b : Blk) (o : Option Obj) : Prop := match b with
  | .cells cs wr sz t => ∃ arr fr, o = some (.cells arr t fr) ∧ L.base + cs.length ≤ arr.size ∧
      (∀ (j : Nat) (x : IV), cs[j]? = some x → ∃ v, conc ρ x = some v ∧ arr[L.base + j]? = some v) ∧
      (wr = true → ∀ j, j < arr.size → ¬ (fr.1 ≤ j ∧ j < fr.2)) ∧
      (0 < sz → L.base = 0 ∧ cs.length ≤ L.cap * sz ∧ L.cap * sz ≤ arr.size) ∧ (sz = 0 → fr = (0, 0))
  | .map es => ∃ arr clock, o = some (.map arr clock) ∧ arr.size = es.length ∧
      ∀ (j : Nat) (k x : IV), es[j]? = some (k, x) → ∃ e : MapEntry, arr[j]? = some e ∧ conc ρ k = some e.key ∧ conc ρ x = some e.val
  | .iter l n pos => L.base = 0 ∧ o = some (.stringIter (strB l n) pos)
/-- What stands at a name may not be written. -/
def St.RO (s : St) (p : P2) : Prop := ∀ b, s.get p = some b → b.ro = true
structure MemRel (ρ : Rho) (s : St) (w : World) : Prop where
  blk : ∀ p L b, ρ p = some L → s.get p = some b → BlkRel ρ L b w.heap[L.blk]?
  inj : ∀ p q L M, ρ p = some L → ρ q = some M → s.get p ≠ none → s.get q ≠ none → L.blk = M.blk → p = q ∨ (s.RO p ∧ s.RO q ∧ L.base ≠ M.base)
  bnd : ∀ p L, ρ p = some L → L.blk < w.heap.size
  frs : ∀ p, s.get p ≠ none → p.num < s.nx.num
def NoDom (ρ : Rho) (s s' : St) : Prop := ∀ p, s.nx.num ≤ p.num → p.num < s'.nx.num → ρ p = none
/-- A world with another heap; nothing else is turned but the draws. -/
abbrev Turned (w w' : World) (h : Array Obj) : Prop := w' = { w with heap := h, drawn := w'.drawn }
theorem Turned.heap {w w' : World} {h : Array Obj} (e : Turned w w' h) : w'.heap = h := by rw [e]
theorem Turned.os {w w' : World} {h : Array Obj} (e : Turned w w' h) : w'.os = w.os := by rw [e]
theorem Turned.out {w w' : World} {h : Array Obj} (e : Turned w w' h) : w'.output = w.output := by rw [e]
theorem Turned.of {w w' : World} {h : Array Obj} (e1 : w'.heap = h) (e2 : w'.tape = w.tape) (e3 : w'.os = w.os) (e4 : w'.output = w.output) : Turned w w' h := by
  cases w; cases w'; simp only at *; subst e1; subst e2; subst e3; subst e4; rfl
structure Step (ρ : Rho) (s : St) (w : World) (ρ' : Rho) (s' : St) (w' : World) : Prop where
  ext : Ext' ρ ρ'
  mem : MemRel ρ' s' w'
  size : w.heap.size ≤ w'.heap.size
  nx : s.nx.num ≤ s'.nx.num
  dom : ∀ p, ρ' p ≠ none → ρ p ≠ none ∨ (s.nx.num ≤ p.num ∧ p.num < s'.nx.num)
  frame : ∀ c, c < w.heap.size → (∀ p L b, ρ p = some L → L.blk = c → s.get p = some b → b.ro = true) → w'.heap[c]? = w.heap[c]?
  own : ∀ p L b, ρ' p = some L → s'.get p = some b → b.ro = false → L.blk < w.heap.size → ∃ q M c, ρ q = some M ∧ M.blk = L.blk ∧ s.get q = some c ∧ c.ro = false
  lk : w'.os = w.os ∧ w'.output = w.output
theorem Step.refl {ρ : Rho} {s : St} {w : World} (h : MemRel ρ s w) : Step ρ s w ρ s w :=
  ⟨Ext'.refl ρ, h, Nat.le_refl _, Nat.le_refl _, fun _ h => .inl h, fun _ _ _ => rfl, fun p L b h1 h2 h3 _ => ⟨p, L, b, h1, rfl, h2, h3⟩, rfl, rfl⟩
theorem Step.trans {ρ ρ1 ρ2 : Rho} {s s1 s2 : St} {w w1 w2 : World} (h : Step ρ s w ρ1 s1 w1) (g : Step ρ1 s1 w1 ρ2 s2 w2) : Step ρ s w ρ2 s2 w2 where
  ext := h.ext.trans g.ext
  mem := g.mem
  size := Nat.le_trans h.size g.size
  nx := Nat.le_trans h.nx g.nx
  dom := fun p hp => by
    have := h.nx; have := g.nx
    rcases g.dom p hp with h1 | h1
    · rcases h.dom p h1 with h2 | h2
      · exact .inl h2
      · exact .inr ⟨h2.1, by omega⟩
    · exact .inr ⟨by omega, h1.2⟩
  frame := fun c hc hro => by
    rw [← h.frame c hc hro]
    refine g.frame c (Nat.lt_of_lt_of_le hc h.size) fun p L b hp hL hb => ?_
    cases hr : b.ro with
    | true => rfl
    | false =>
      obtain ⟨q, M, d, hq, hM, hd, hdr⟩ := h.own p L b hp hb hr (by omega)
      have := hro q M d hq (hM.trans hL) hd
      rw [hdr] at this; cases this
  own := fun p L b hp hb hr hlt => by
    obtain ⟨q, M, d, hq, hM, hd, hdr⟩ := g.own p L b hp hb hr (Nat.lt_of_lt_of_le hlt h.size)
    obtain ⟨q2, M2, d2, hq2, hM2, hd2, hdr2⟩ := h.own q M d hq hd hdr (by omega)
    exact ⟨q2, M2, d2, hq2, hM2.trans hM, hd2, hdr2⟩
  lk := ⟨g.lk.1.trans h.lk.1, g.lk.2.trans h.lk.2⟩
theorem NoDom.first {ρ : Rho} {s s1 s2 : St} (h : NoDom ρ s s2) (h1 : s1.nx.num ≤ s2.nx.num) : NoDom ρ s s1 := fun p a b => h p a (by omega)
theorem NoDom.next {ρ ρ1 : Rho} {s s1 s2 : St} {w w1 : World} (h : NoDom ρ s s2) (g : Step ρ s w ρ1 s1 w1) : NoDom ρ1 s1 s2 := fun p a b => by
  have := g.nx
  cases hp : ρ1 p with
  | none => rfl
  | some L =>
    rcases g.dom p (by simp [hp]) with h2 | h2
    · exact absurd (h p (by omega) b) h2
    · omega

/-- The temporaries. -/
def EnvRel (ρ : Rho) (v : Env) (tmps : Array Value) : Prop := ∀ t x, v.at t = some x → t < tmps.size ∧ conc ρ x = some (tmps.getD t undef)
theorem EnvRel.mono {ρ ρ' : Rho} {v : Env} {tmps : Array Value} (h : EnvRel ρ v tmps) (e : Ext' ρ ρ') : EnvRel ρ' v tmps :=
  fun t x ht => ⟨(h t x ht).1, conc_mono e _ _ (h t x ht).2⟩
end Go.Ev
