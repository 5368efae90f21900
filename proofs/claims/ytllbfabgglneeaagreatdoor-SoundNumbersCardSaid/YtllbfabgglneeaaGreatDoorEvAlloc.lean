/- DERIVED. New things, of whatever name. -/
import Derived.Test.YtllbfabgglneeaaGreatDoorEvCongr
set_option linter.unusedVariables false
set_option linter.unusedSimpArgs false
namespace Go.Ev
section
variable {P : Program} {C : Ctx} {call : CallF} {v : Env} {s : St} {k : KO} {o : Oper}

inductive Mk where
  | ptr
  | sl (n : Nat)
  | map
def Mk.of : Mk → P2 → IV
  | .ptr, p => .ptr p 0
  | .sl n, p => .sl p 0 n (.is n)
  | .map, p => .map p
structure AllocLaw (P : Program) (C : Ctx) (o : Oper) (v : Env) (m : Mk) (b : Blk) : Prop where
  run : ∀ (ρ : Rho) (a : Act) (w : World), Glob C ρ → EnvRel ρ v a.tmps → ∃ obj w' xv, Turned w w' (w.heap.push obj) ∧ BlkRel ρ ⟨w.heap.size, 0, 0⟩ b (some obj) ∧
    (execOp a.eval o).run P w = .ok (.value xv) w' ∧ ∀ (ρ' : Rho) p, ρ' p = some ⟨w.heap.size, 0, 0⟩ → conc ρ' (m.of p) = some xv
/-- What an operation that lays something new comes to. -/
theorem alloc_sound (hC : CtxOk P C) {c : Co} (h : compO C o.op = some c) (ha : isAlloc c = true) (hk : opK c call v s k = true) :
    ∃ m b, k (Mk.of m s.nx) (s.add b) = true ∧ AllocLaw P C o v m b := by
  have hT := hC.ty
  cases hop : o.op with
  | alloc t =>
    simp only [compO, hop] at h
    split at h <;> cases h
    rename_i i hi
    have h1 : oNew i.zero t v s k = true := hk
    simp only [oNew, newB_eq] at h1
    refine ⟨.ptr, _, h1, ⟨fun ρ a w hg he => ?_⟩⟩
    obtain ⟨z, hz, hl, _⟩ := run_zero (hT _ _ hi) w
    refine ⟨.cells z.cells t, { w with heap := w.heap.push (.cells z.cells t) }, .pointer (some ⟨w.heap.size, 0, none⟩), rfl, .row (lits_conc ρ hl), ?_, fun ρ' p hp => by simp [Mk.of, conc, hp]⟩
    simp [execOp, hop, Instr.alloc, hz, newVar, newRow]
  | box t x =>
    simp only [compO, hop] at h
    split at h <;> cases h
    rename_i i y hi hy
    have h1 : oBox y t v s k = true := hk
    simp only [oBox, newB_eq, getK_iff, cellsK_eq] at h1
    obtain ⟨z, hz, h1⟩ := h1
    refine ⟨.ptr, _, h1, ⟨fun ρ a w hg he => ?_⟩⟩
    have hc := od_conc hg he hy hz
    refine ⟨.cells (a.eval x).cells t, { w with heap := w.heap.push (.cells (a.eval x).cells t) }, .pointer (some ⟨w.heap.size, 0, none⟩), rfl, .row (cells_conc' hc), ?_, fun ρ' p hp => by simp [Mk.of, conc, hp]⟩
    simp [execOp, hop, Instr.box, newVar, newRow]
  | buildSlice t len ps =>
    simp only [compO, hop] at h
    split at h
    · rename_i i hi
      split at h
      · rename_i e hd
        split at h
        · rename_i ie hie'
          split at h
          · rename_i h5
            split at h <;> cases h
            rename_i l hp
            have hie := hT _ _ hie'
            obtain ⟨hlen, hsz⟩ := h5
            have h1 : oBslice len (reps len ie.zero) l e v s k = true := hk
            simp only [oBslice, partsK_iff, newB_eq] at h1
            obtain ⟨cs', hparts, hk1⟩ := h1
            refine ⟨.sl len, _, hk1, ⟨fun ρ a w hg he => ?_⟩⟩
            obtain ⟨z, hz, hl, hzl, _, _⟩ := run_zero hie w
            have hc := lits_conc ρ hl
            obtain ⟨us', hu, hfl⟩ := parts_conc hg he (fun _ _ h => h) hp (concs_reps hc len) hparts
            refine ⟨.cells us'.toArray e, { w with heap := w.heap.push (.cells us'.toArray e) }, .slice (some ⟨w.heap.size, 0, none⟩) len len, rfl, .row (by simpa using hu), ?_, fun ρ' p hp => by simp [Mk.of, conc, hp, ICap.of]⟩
            have hno : ¬ (len * ie.size > 2 ^ 24) := by omega
            simp only [execOp, hop, Instr.buildSlice, Sem.run_bind, run_underlying (und_slice (hT _ _ hi) hd), Result.andThen_ok, run_size hie]
            by_cases h0 : len * ie.size = 0
            · have : len = 0 := by rcases Nat.mul_eq_zero.1 h0 with h | h <;> omega
              subst this
              have hr : Array.range 0 = #[] := rfl
              simp [reps] at hfl
              simp [hr, hfl, newRow]
            · have hzz := zeros_eq z.cells len (by omega)
              rw [hzl] at hzz
              simp [hno, h0, hz, hzl, hzz, hfl, newRow]
          · cases h
        · cases h
      · cases h
    · cases h
  | makeMap t r =>
    cases r with
    | none =>
      simp only [compO, hop] at h; cases h
      have h1 : oMkmap v s k = true := hk
      simp only [oMkmap, newB_eq] at h1
      refine ⟨.map, _, h1, ⟨fun ρ a w hg he => ⟨.map #[] 0, { w with heap := w.heap.push (.map #[] 0) }, .map (some w.heap.size), rfl, ⟨#[], 0, rfl, rfl, by simp⟩, by simp [execOp, hop, Instr.makeMap], fun ρ' p hp => by simp [Mk.of, conc, hp]⟩⟩⟩
    | some _ => simp [compO, hop] at h
  | _ =>
    exfalso
    simp only [compO, hop] at h
    (repeat' split at h) <;> first
      | contradiction
      | (cases h; done)
      | (cases h; cases ha; done)
      | (simp only [Option.map_eq_some_iff] at h; obtain ⟨_, _, rfl⟩ := h; cases ha; done)
      | (injection h with h; subst h; split at ha <;> cases ha; done)

/-! ### Sameness -/
theorem P2.same_eq : ∀ {p q : P2}, p.same q = true → p = q
  | .e, .e, _ => rfl
  | .o p, .o q, h => by rw [P2.same_eq (p := p) (q := q) h]
  | .i p, .i q, h => by rw [P2.same_eq (p := p) (q := q) h]
  | .e, .o _, h => by cases h
  | .e, .i _, h => by cases h
  | .o _, .e, h => by cases h
  | .o _, .i _, h => by cases h
  | .i _, .e, h => by cases h
  | .i _, .o _, h => by cases h
theorem ICap.same_eq {a b : ICap} (h : a.same b = true) : a = b := by
  cases a <;> cases b <;> simp [ICap.same] at h
  · rw [h]
  · rw [h]
mutual
theorem IV.same_eq : ∀ {x y : IV}, x.same y = true → x = y
  | .bool a, y, h => by cases y <;> simp [IV.same] at h; rw [h]
  | .int t a, y, h => by cases y <;> simp [IV.same] at h; rw [h.1, h.2]
  | .str a b, y, h => by cases y <;> simp [IV.same] at h; rw [h.1, h.2]
  | .ptr a b, y, h => by cases y <;> simp [IV.same] at h; rw [P2.same_eq h.1, h.2]
  | .nilp, y, h => by cases y <;> simp [IV.same] at h; rfl
  | .sl a b c d, y, h => by cases y <;> simp [IV.same] at h; rw [P2.same_eq h.1.1.1, h.1.1.2, h.1.2, ICap.same_eq h.2]
  | .nilsl, y, h => by cases y <;> simp [IV.same] at h; rfl
  | .map p, y, h => by cases y <;> simp [IV.same] at h; rw [P2.same_eq h]
  | .nilmap, y, h => by cases y <;> simp [IV.same] at h; rfl
  | .fn f a b, y, h => by cases y <;> simp [IV.same] at h; rw [h.1.1, IV.sames_eq h.1.2, IV.sames_eq h.2]
  | .nilfn, y, h => by cases y <;> simp [IV.same] at h; rfl
  | .iface t x, y, h => by cases y <;> simp [IV.same] at h; rw [h.1, IV.same_eq h.2]
  | .nili, y, h => by cases y <;> simp [IV.same] at h; rfl
  | .agg a, y, h => by cases y <;> simp [IV.same] at h; rw [IV.sames_eq h]
  | .tup a, y, h => by cases y <;> simp [IV.same] at h; rw [IV.sames_eq h]
theorem IV.sames_eq : ∀ {a b : List IV}, IV.sames a b = true → a = b
  | [], b, h => by cases b <;> simp [IV.sames] at h; rfl
  | x :: a, b, h => by cases b <;> simp [IV.sames] at h; rw [IV.same_eq h.1, IV.sames_eq h.2]
end
theorem sameP_eq : ∀ {a b : List (IV × IV)}, sameP a b = true → a = b
  | [], b, h => by cases b <;> simp [sameP] at h; rfl
  | (x, y) :: a, b, h => by
    cases b with
    | nil => simp [sameP] at h
    | cons q r =>
      obtain ⟨q1, q2⟩ := q
      simp [sameP] at h
      rw [IV.same_eq h.1.1, IV.same_eq h.1.2, sameP_eq h.2]
theorem Blk.same_eq {a b : Blk} (h : a.same b = true) : a = b := by
  cases a <;> cases b <;> simp [Blk.same] at h
  · rw [IV.sames_eq h.1.1.1, h.1.1.2, h.1.2, h.2]
  · rw [sameP_eq h]
  · rw [h.1.1, h.1.2, h.2]
theorem allocSame_inv {m : Mk} {y : IV} {b : Blk} (h : allocSame s y (s.add b) (m.of s.nx) = true) : ∃ p, y = m.of p ∧ s.get p = some b := by
  have hb : (s.add b).get s.nx = some b := by rw [St.get_add]; simp
  have key : ∀ p, stK s (fun m _ => getM m p (fun x => stK (s.add b) (fun m' _ => getM m' s.nx (fun b' => x.same b')))) = true → s.get p = some b := by
    intro p h
    simp only [stK_eq, getM_iff] at h
    obtain ⟨x, hx, b', hb', hs⟩ := h
    have : b' = b := by
      have : (s.add b).get s.nx = some b' := hb'
      rw [hb] at this; exact (Option.some.inj this).symm
    subst this
    rw [Blk.same_eq hs] at hx; exact hx
  cases m with
  | ptr =>
    cases y with
    | ptr p off =>
      have h' : boolK (Nat.beq off 0) (asPtr (.ptr s.nx 0) (fun p' o' => boolK (Nat.beq o' 0) (stK s (fun m _ => getM m p (fun x => stK (s.add b) (fun m' _ => getM m' p' (fun b' => x.same b'))))) false)) false = true := h
      rw [boolK_t] at h'
      have e : off = 0 := Nat.eq_of_beq_eq_true h'.1
      subst e
      exact ⟨p, rfl, key p h'.2⟩
    | sl p off l c => simp [allocSame, Mk.of, asSl] at h; rw [boolK_t] at h; cases h.2
    | _ => simp [allocSame, Mk.of, asMap] at h
  | sl n =>
    cases y with
    | ptr p off => simp [allocSame, Mk.of, asPtr] at h; rw [boolK_t] at h; cases h.2
    | sl p off l c =>
      have h' : boolK (Nat.beq off 0) (boolK (Nat.beq 0 0) (boolK (Nat.beq l n) (boolK (c.same (.is n)) (stK s (fun m _ => getM m p (fun x => stK (s.add b) (fun m' _ => getM m' s.nx (fun b' => x.same b'))))) false) false) false) false = true := h
      simp only [boolK_t] at h'
      obtain ⟨e1, _, e2, e3, h4⟩ := h'
      have e : off = 0 := Nat.eq_of_beq_eq_true e1
      have e' : l = n := Nat.eq_of_beq_eq_true e2
      subst e; subst e'
      rw [ICap.same_eq e3]
      exact ⟨p, rfl, key p h4⟩
    | _ => simp [allocSame, Mk.of, asMap] at h
  | map =>
    cases y with
    | ptr p off => simp [allocSame, Mk.of, asPtr] at h; rw [boolK_t] at h; cases h.2
    | sl p off l c => simp [allocSame, Mk.of, asSl] at h; rw [boolK_t] at h; cases h.2
    | map p => exact ⟨p, rfl, key p h⟩
    | _ => simp [allocSame, Mk.of, asMap] at h
end
end Go.Ev
