/- DERIVED. The ideal machine's operations against the model's: slices, lengths, assertions, ranges. -/
import Derived.Test.YtllbfabgglneeaaGreatDoorEvOps6
set_option linter.unusedVariables false
namespace Go.Ev
section
variable {P : Program} {C : Ctx} {o : Oper} {v : Env} {s : St} {k : KO}

theorem Bnd.le {v : Env} {x : Option Od} {d m r : Nat} (h : Bnd v x d m r) (hd : d ≤ m) : r ≤ m := by
  cases x with
  | none => simp [Bnd] at h; omega
  | some y => exact h.choose_spec.2
/-- What slicing to a known capacity comes to. -/
theorem slIs_inv {size : Nat} {p : P2} {off m h b : Nat} (hk : slIs size p off m h b s k = true) (hbh : b ≤ h) (hhm : h ≤ m) :
    ∃ r, k r s = true ∧ ∀ (ρ : Rho) (L : Loc), ρ p = some L → conc ρ r = some (.slice (some (if m = b then (⟨L.blk, L.base + off, none⟩ : Addr) else (⟨L.blk, L.base + off, none⟩ : Addr).add (b * size))) (h - b) (m - b)) := by
  unfold slIs at hk
  rw [boolK_iff] at hk
  rcases hk with ⟨h1, hk⟩ | ⟨h1, hk⟩
  · have e : m = b := Nat.eq_of_beq_eq_true h1
    refine ⟨_, by simpa using hk, fun ρ L hL => ?_⟩
    subst e
    simp only [conc, hL, Option.map_some, if_true, Nat.sub_self, ICap.of]
  · have e : m ≠ b := Nat.ne_of_beq_eq_false h1
    refine ⟨_, by simpa using hk, fun ρ L hL => ?_⟩
    simp only [conc, hL, Option.map_some, if_neg e, Addr.add_mk, ICap.of, Nat.add_assoc]
theorem rowK_iff (size : Nat) (p : P2) (off len f : Nat) (kk : Bool) : rowK size s p off len f kk = true ↔ (∃ cs wr t, s.get p = some (.cells cs wr size t) ∧ off = f * size ∧ off + len * size ≤ cs.length) ∧ kk = true := by
  unfold rowK
  simp only [getC_iff, boolK_t, lenK_eq, ble_iff]
  constructor
  · rintro ⟨cs, wr, sz, t, hs, h1, h2, h3, h4⟩
    have e2 := Nat.eq_of_beq_eq_true h2
    subst e2
    exact ⟨⟨cs, wr, t, hs, Nat.eq_of_beq_eq_true h1, h3⟩, h4⟩
  · rintro ⟨⟨cs, wr, t, hs, h1, h3⟩, h4⟩
    exact ⟨cs, wr, size, t, hs, by rw [h1]; exact Nat.beq_refl _, Nat.beq_refl _, h3, h4⟩
/-- A slice to its row's end lies within its capacity. -/
theorem row_cap {ρ : Rho} {w : World} (hm : MemRel ρ s w) {p : P2} {L : Loc} (hp : ρ p = some L) {size off len f : Nat} (hs0 : 0 < size) (h : ∃ cs wr t, s.get p = some (.cells cs wr size t) ∧ off = f * size ∧ off + len * size ≤ cs.length) : f + len ≤ L.cap := by
  obtain ⟨cs, wr, t, hs, h1, h2⟩ := h
  obtain ⟨arr, fr, _, _, _, _, h5⟩ := hm.blk p L _ hp hs
  have h6 := (h5.1 hs0).2.1
  have : (f + len) * size ≤ L.cap * size := by rw [Nat.add_mul]; omega
  exact Nat.le_of_mul_le_mul_right this hs0
theorem snd_sl {t e : TypeId} {i ie : TI} {x : Operand} {x' : Od} {lo hi : Option Operand} {lo' hi' : Option Od} (ho : o.op = .slice t x lo hi none) (hti : TIok P t i) (hd : i.d = .slice e) (hie : TIok P e ie) (hs0 : 0 < ie.size) (hx : od C x = some x') (hlo : odo C lo = some lo') (hhi : odo C hi = some hi')
    (h : oSl ie.size x' lo' hi' v s k = true) : ∃ x s', k x s' = true ∧ Snd P C o v s x s' := by
  simp only [oSl, getK_iff, asSl_iff] at h
  obtain ⟨z, hz, ⟨rfl, h⟩ | ⟨p, off, len, c, rfl, h⟩⟩ := h
  · simp only [bndK_iff] at h
    obtain ⟨h1, hb1, b, hb2, h⟩ := h
    have e1 : h1 = 0 := by have := hb1.le (Nat.le_refl 0); omega
    subst e1
    have e2 : b = 0 := by have := hb2.le (Nat.le_refl 0); omega
    subst e2
    refine ⟨_, s, h, .pure fun ρ a w hg he hm => ⟨.slice none 0 0, w, ?_, rfl, by simp [conc]⟩⟩
    have e : a.eval x = .slice none 0 0 := by simpa [conc] using (od_conc hg he hx hz).symm
    simp [execOp, ho, Instr.sliceAt, Instr.slice, run_underlying (und_slice hti hd), e, run_sb hg he hlo hhi (Nat.le_refl 0) hb1 hb2, run_size hie]
  · cases c with
    | is m =>
      have h' : boolK (Nat.ble len m) (bndK v hi' len m (fun h => bndK v lo' 0 h (fun b => slIs ie.size p off m h b s k))) false = true := h
      rw [boolK_t, ble_iff] at h'
      obtain ⟨hlm, h'⟩ := h'
      simp only [bndK_iff] at h'
      obtain ⟨h1, hb1, b, hb2, h'⟩ := h'
      have hbh := hb2.le (Nat.zero_le h1)
      have hhm : h1 ≤ m := hb1.le hlm
      · obtain ⟨r, hk, hr⟩ := slIs_inv h' hbh hhm
        refine ⟨r, s, hk, .pure fun ρ a w hg he hm => ?_⟩
        obtain ⟨L, hL, e1⟩ := slice_inv (od_conc hg he hx hz)
        simp only [ICap.of] at e1
        refine ⟨_, w, ?_, rfl, hr ρ L hL⟩
        simp [execOp, ho, Instr.sliceAt, Instr.slice, run_underlying (und_slice hti hd), e1, run_sb hg he hlo hhi (Nat.le_refl m) hb1 hb2, run_size hie]
        split <;> rfl
    | till f =>
      have h' : rowK ie.size s p off len f (bndK v hi' len len (fun h => bndK v lo' 0 h (fun b => boolK (Nat.beq b 0) (k (.sl p off h (.till f)) s)
        (boolK (Nat.blt b len) (natK (Nat.add off (Nat.mul b ie.size)) (fun o => natK (Nat.sub h b) (fun n => natK (Nat.add f b) (fun g => k (.sl p o n (.till g)) s)))) false)))) = true := h
      simp only [rowK_iff, bndK_iff, natK_eq] at h'
      obtain ⟨hrow, h1, hb1, b, hb2, h'⟩ := h'
      have hbh := hb2.le (Nat.zero_le h1)
      have hhl := hb1.le (Nat.le_refl len)
      rw [boolK_iff, boolK_t, blt_iff] at h'
      rcases h' with ⟨e0, hk⟩ | ⟨e0, hlt, hk⟩
      · have e := Nat.eq_of_beq_eq_true e0
        subst e
        refine ⟨_, s, hk, .pure fun ρ a w hg he hm => ?_⟩
        obtain ⟨L, hL, e1⟩ := slice_inv (od_conc hg he hx hz)
        have hcap := row_cap hm hL hs0 hrow
        simp only [ICap.of] at e1
        refine ⟨.slice (some ⟨L.blk, L.base + off, none⟩) h1 (L.cap - f), w, ?_, rfl, by simp [conc, hL, ICap.of]⟩
        simp [execOp, ho, Instr.sliceAt, Instr.slice, run_underlying (und_slice hti hd), e1, run_sb hg he hlo hhi (show len ≤ L.cap - f by omega) hb1 hb2, run_size hie, Addr.add_mk]
      · refine ⟨_, s, hk, .pure fun ρ a w hg he hm => ?_⟩
        obtain ⟨L, hL, e1⟩ := slice_inv (od_conc hg he hx hz)
        have hcap := row_cap hm hL hs0 hrow
        simp only [ICap.of] at e1
        refine ⟨.slice (some ⟨L.blk, L.base + (off + b * ie.size), none⟩) (h1 - b) (L.cap - f - b), w, ?_, rfl, by simp only [conc, hL, Option.map_some, ICap.of]; congr 2; exact (Nat.sub_sub ..).symm⟩
        have hne : ¬ (L.cap - f = b) := by omega
        simp [execOp, ho, Instr.sliceAt, Instr.slice, run_underlying (und_slice hti hd), e1, run_sb hg he hlo hhi (show len ≤ L.cap - f by omega) hb1 hb2, run_size hie, Addr.add_mk, hne, Nat.add_assoc]
end
end Go.Ev
