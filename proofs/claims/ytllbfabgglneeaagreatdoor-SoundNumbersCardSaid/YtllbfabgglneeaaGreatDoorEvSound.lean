/- DERIVED. An operation of the compact code is sound for the model's. -/
import Derived.Test.YtllbfabgglneeaaGreatDoorEvOps12
set_option linter.unusedVariables false
set_option linter.unusedSimpArgs false
namespace Go.Ev
section
variable {P : Program} {C : Ctx} {o : Oper} {v : Env} {s : St} {k : KO} {call : CallF}
abbrev Goal (P : Program) (C : Ctx) (o : Oper) (v : Env) (s : St) (k : KO) : Prop := ∃ x s', k x s' = true ∧ Snd P C o v s x s'

theorem odo_none {C : Ctx} : odo C none = some none := rfl

theorem snd_mvs {src dst : TypeId} {i j : TI} {x : Operand} {x' : Od} (ho : o.op = .convert src dst x) (hi : TIok P src i) (hj : TIok P dst j) (hd : i.d = .str) (hd2 : j.d = .str) (hx : od C x = some x') (h : oMvs x' v s k = true) : Goal P C o v s k := by
  simp only [oMvs, getK_iff, asStr_iff] at h
  obtain ⟨y, hy, l, n, rfl, hk⟩ := h
  refine ⟨_, s, hk, .pure fun ρ a w hg he hm => ⟨.string (strB l n), w, ?_, rfl, by simp [conc]⟩⟩
  have e := str_inv (od_conc hg he hx hy)
  simp [execOp, ho, convert, run_underlying (und_str hi hd), run_underlying (und_str hj hd2), e]
theorem op_sound (hC : CtxOk P C) (hcall : CallOk P C call) {c : Co} (h : compO C o.op = some c) (hk : opK c call v s k = true) : Goal P C o v s k := by
  have hT := hC.ty
  cases hop : o.op with
  | move x =>
    simp only [compO, hop, Option.map_eq_some_iff] at h; obtain ⟨y, hy, rfl⟩ := h
    exact snd_mv (.inl hop) hy hk
  | assign x =>
    simp only [compO, hop, Option.map_eq_some_iff] at h; obtain ⟨y, hy, rfl⟩ := h
    exact snd_mv (.inr hop) hy hk
  | pick c a b =>
    simp only [compO, hop] at h
    split at h <;> cases h
    rename_i h1 h2 h3
    exact snd_pick hop h1 h2 h3 hk
  | alloc t =>
    simp only [compO, hop] at h
    split at h <;> cases h
    rename_i h1
    exact snd_new hop (hT _ _ h1) hk
  | box t x =>
    simp only [compO, hop] at h
    split at h <;> cases h
    rename_i h1 h2
    exact snd_box hop h2 hk
  | build t ps =>
    simp only [compO, hop] at h
    split at h
    · rename_i i h1
      split at h
      · rename_i fs h2
        split at h <;> cases h
        rename_i l h3
        exact snd_buildS hT hop (hT _ _ h1) h2 h3 hk
      · rename_i n e h2
        split at h
        · rename_i ie h3
          split at h <;> cases h
          rename_i l h4
          exact snd_buildA hop (hT _ _ h1) h2 (hT _ _ h3) h4 hk
        · cases h
      · cases h
    · cases h
  | buildSlice t len ps =>
    simp only [compO, hop] at h
    split at h
    · rename_i i h1
      split at h
      · rename_i e h2
        split at h
        · rename_i ie h3
          split at h
          · rename_i h5
            split at h <;> cases h
            rename_i l h4
            exact snd_bslice hop (hT _ _ h1) h2 (hT _ _ h3) h5.1 h5.2 h4 hk
          · cases h
        · cases h
      · cases h
    · cases h
  | load t a =>
    simp only [compO, hop] at h
    split at h
    · rename_i i p h1 h2
      cases ha : i.d.agg
      · simp only [ha] at h; cases h
        exact snd_load1 hop (hT _ _ h1) ha h2 hk
      · simp only [ha] at h; cases h
        exact snd_loadN hop (hT _ _ h1) ha h2 hk
    · cases h
  | store t a x =>
    simp only [compO, hop] at h
    split at h <;> cases h
    rename_i h1 h2 h3
    exact snd_store hop (hT _ _ h1) h2 h3 hk
  | nilCheck x =>
    simp only [compO, hop, Option.map_eq_some_iff] at h; obtain ⟨y, hy, rfl⟩ := h
    exact snd_nilck hop hy hk
  | binOp op t x y ty =>
    simp only [compO, hop] at h
    split at h
    · rename_i i a b h1 h2 h3
      split at h
      · rename_i op1 _ _ _ _
        cases hc : (C.br && isAnd1 op1 y) with
        | true => rw [hc, if_pos rfl] at h; cases h; rw [Bool.and_eq_true] at hc; exact snd_and1 hop hc.2 h2 hk
        | false => rw [hc, if_neg (by decide)] at h; cases h; exact snd_ib hop h2 h3 hk
      · cases h; exact snd_sb hop h2 h3 hk
      · cases h; exact snd_sb hop h2 h3 hk
      · cases h; exact snd_sb hop h2 h3 hk
      · rename_i hd
        cases hc : (isC x || isC y) with
        | true => rw [hc, if_pos rfl] at h; cases h; exact snd_eqI (neg := false) hop (hT _ _ h1) hd hc h2 h3 hk
        | false => rw [hc, if_neg (by decide)] at h; cases h; exact snd_eqi (neg := false) hC hop (hT _ _ h1) hd h2 h3 hk
      · rename_i hd
        cases hc : (isC x || isC y) with
        | true => rw [hc, if_pos rfl] at h; cases h; exact snd_eqI (neg := true) hop (hT _ _ h1) hd hc h2 h3 hk
        | false => rw [hc, if_neg (by decide)] at h; cases h; exact snd_eqi (neg := true) hC hop (hT _ _ h1) hd h2 h3 hk
      · simp only [Option.map_eq_some_iff] at h; obtain ⟨q, hq, rfl⟩ := h
        exact snd_eq (neg := false) hC hop h1 hq h2 h3 hk
      · simp only [Option.map_eq_some_iff] at h; obtain ⟨q, hq, rfl⟩ := h
        exact snd_eq (neg := true) hC hop h1 hq h2 h3 hk
      · cases h
    · cases h
  | unOp op t x =>
    simp only [compO, hop] at h
    split at h <;> cases h
    · rename_i h1; exact snd_neg hop h1 hk
    · rename_i h1; exact snd_not hop h1 hk
  | convert src dst x =>
    simp only [compO, hop] at h
    split at h
    · rename_i i j a h1 h2 h3
      split at h
      · rename_i hd1 hd2; cases h; exact snd_conv (l := .i64) hop (hT _ _ h1) (hT _ _ h2) hd2 h3 hk
      · rename_i hd1 hd2; cases h; exact snd_mvs hop (hT _ _ h1) (hT _ _ h2) hd1 hd2 h3 hk
      · rename_i e hd1 hd2
        split at h
        · rename_i ie h4
          split at h <;> cases h
          rename_i hd3
          exact snd_s2b hop (hT _ _ h1) (hT _ _ h2) hd1 hd2 (hT _ _ h4) hd3 h3 hk
        · cases h
      · rename_i e hd1 hd2
        split at h
        · rename_i ie h4
          split at h <;> cases h
          rename_i hd3
          exact snd_b2s hop (hT _ _ h1) (hT _ _ h2) hd1 hd2 (hT _ _ h4) hd3 h3 hk
        · cases h
      · cases h
    · cases h
  | makeInterface t x =>
    simp only [compO, hop] at h
    split at h
    · rename_i i a h1 h2
      split at h
      · cases h
      · cases h
      · rename_i hd _; cases h; exact snd_mkif hop (hT _ _ h1) hd h2 hk
    · cases h
  | makeFunc f a b =>
    cases f with
    | func f =>
      simp only [compO, hop] at h
      split at h <;> cases h
      rename_i h1 h2
      exact snd_mkfn hop h1 h2 hk
    | _ => simp [compO, hop] at h
  | makeMap t r =>
    cases r with
    | none =>
      simp only [compO, hop] at h; cases h
      exact snd_mkmap hop hk
    | some _ => simp [compO, hop] at h
  | makeSlice t l c =>
    simp only [compO, hop] at h
    split at h
    · rename_i i a b h1 h2 h3
      split at h
      · rename_i e hd
        split at h
        · rename_i ie h4
          split at h <;> cases h
          rename_i h5
          exact snd_mkslice hop (hT _ _ h1) hd (hT _ _ h4) h5.1 h5.2 h2 h3 hk
        · cases h
      · cases h
    · cases h
  | slice t x lo hi mx =>
    cases mx with
    | some _ => simp [compO, hop] at h
    | none =>
      simp only [compO, hop] at h
      split at h
      · rename_i i a l h' h1 h2 h3 h4
        split at h
        · rename_i hd; cases h; exact snd_slStr hop (hT _ _ h1) hd h2 h3 h4 hk
        · rename_i e hd
          split at h
          · rename_i ie h5
            split at h <;> cases h
            rename_i h6
            exact snd_sl hop (hT _ _ h1) hd (hT _ _ h5) h6 h2 h3 h4 hk
          · cases h
        · rename_i n e hd
          split at h
          · rename_i ie h5
            split at h <;> cases h
            rename_i h6
            exact snd_slArr hop (hT _ _ h1) hd (hT _ _ h5) h2 h3 h4 hk
          · cases h
        · cases h
      · cases h
  | fieldAddr t x f =>
    simp only [compO, hop] at h
    split at h
    · rename_i off j a h1 h2
      split at h <;> cases h
      rename_i h3
      exact snd_faddr hT hop h1 h3 h2 hk
    · cases h
  | field t x f =>
    simp only [compO, hop] at h
    split at h
    · rename_i off j a h1 h2
      cases ha : j.d.agg
      · simp only [ha] at h; cases h
        exact snd_fld1 hT hop h1 ha h2 hk
      · simp only [ha] at h; cases h
        exact snd_fldN hT hop h1 ha h2 hk
    · cases h
  | indexAddr t x ix =>
    simp only [compO, hop] at h
    split at h
    · rename_i i a b h1 h2 h3
      split at h
      · rename_i n e hd
        split at h <;> cases h
        rename_i h4
        exact snd_idxA hop (hT _ _ h1) hd (hT _ _ h4) h2 h3 hk
      · rename_i e hd
        split at h <;> cases h
        rename_i h4
        exact snd_idxS hop (hT _ _ h1) hd (hT _ _ h4) h2 h3 hk
      · cases h
    · cases h
  | index t x ix =>
    simp only [compO, hop] at h
    split at h
    · rename_i i a b h1 h2 h3
      split at h
      · rename_i hd; cases h
        exact snd_idxStr hop (hT _ _ h1) hd h2 h3 hk
      · rename_i n e hd
        split at h
        · rename_i ie h4
          cases ha : ie.d.agg
          · simp only [ha] at h; cases h
            exact snd_idxV1 hop (hT _ _ h1) hd (hT _ _ h4) ha h2 h3 hk
          · simp only [ha] at h; cases h
            exact snd_idxVN hop (hT _ _ h1) hd (hT _ _ h4) ha h2 h3 hk
        · cases h
      · cases h
    · cases h
  | lookup t x ky ok =>
    simp only [compO, hop] at h
    split at h
    · rename_i i a b h1 h2 h3
      split at h
      · rename_i kt e hd
        split at h
        · rename_i ik ie h4 h5
          split at h
          · rename_i hd2 hz; cases h
            exact snd_look hop (hT _ _ h1) hd (hT _ _ h4) (.inr (.inr ⟨rfl, _, hd2⟩)) (hT _ _ h5) hz h2 h3 hk
          · rename_i hd2 hz; cases h
            exact snd_look hop (hT _ _ h1) hd (hT _ _ h4) (.inr (.inl ⟨rfl, hd2⟩)) (hT _ _ h5) hz h2 h3 hk
          · rename_i hd2 hz; cases h
            exact snd_look hop (hT _ _ h1) hd (hT _ _ h4) (.inl ⟨rfl, hd2⟩) (hT _ _ h5) hz h2 h3 hk
          · cases h
        · cases h
      · cases h
    · cases h
  | mapUpdate t m ky x =>
    simp only [compO, hop] at h
    split at h
    · rename_i i a b c' h1 h2 h3 h4
      split at h
      · rename_i kt e hd
        split at h
        · rename_i ik h5
          split at h
          · rename_i hd2; cases h
            exact snd_mupd (.inl hop) (hT _ _ h1) hd (hT _ _ h5) (.inr (.inr ⟨rfl, _, hd2⟩)) h2 h3 h4 hk
          · rename_i hd2; cases h
            exact snd_mupd (.inl hop) (hT _ _ h1) hd (hT _ _ h5) (.inr (.inl ⟨rfl, hd2⟩)) h2 h3 h4 hk
          · rename_i hd2; cases h
            exact snd_mupd (.inl hop) (hT _ _ h1) hd (hT _ _ h5) (.inl ⟨rfl, hd2⟩) h2 h3 h4 hk
          · cases h
        · cases h
      · cases h
    · cases h
  | insert t m ky x =>
    simp only [compO, hop] at h
    split at h
    · rename_i i a b c' h1 h2 h3 h4
      split at h
      · rename_i kt e hd
        split at h
        · rename_i ik h5
          split at h
          · rename_i hd2; cases h
            exact snd_mupd (.inr hop) (hT _ _ h1) hd (hT _ _ h5) (.inr (.inr ⟨rfl, _, hd2⟩)) h2 h3 h4 hk
          · rename_i hd2; cases h
            exact snd_mupd (.inr hop) (hT _ _ h1) hd (hT _ _ h5) (.inr (.inl ⟨rfl, hd2⟩)) h2 h3 h4 hk
          · rename_i hd2; cases h
            exact snd_mupd (.inr hop) (hT _ _ h1) hd (hT _ _ h5) (.inl ⟨rfl, hd2⟩) h2 h3 h4 hk
          · cases h
        · cases h
      · cases h
    · cases h
  | range t x =>
    simp only [compO, hop] at h
    split at h
    · rename_i i a h1 h2
      split at h <;> cases h
      rename_i hd
      exact snd_rng hop (hT _ _ h1) hd h2 hk
    · cases h
  | next it b =>
    cases b with
    | true =>
      simp only [compO, hop, Option.map_eq_some_iff] at h; obtain ⟨y, hy, rfl⟩ := h
      exact snd_next hop hy hk
    | false => simp [compO, hop] at h
  | typeAssert x xt t ok =>
    simp only [compO, hop] at h
    split at h
    · rename_i i a h1 h2
      split at h
      · cases h
      · cases h
      · rename_i z hz hd _; cases h
        exact snd_tass hop (hT _ _ h1) hd hz h2 hk
      · cases h
    · cases h
  | extract t ix =>
    simp only [compO, hop, Option.map_eq_some_iff] at h; obtain ⟨y, hy, rfl⟩ := h
    exact snd_extr hop hy hk
  | call c =>
    simp only [compO, hop] at h
    split at h
    · rename_i x hcal hx
      split at h
      · rename_i t ht
        split at h
        · rename_i i h1
          split at h
          · rename_i n e hd; cases h
            exact snd_lenA hop hcal ht (hT _ _ h1) hd hx hk
          · rename_i hd; cases h
            exact snd_lenS hop hcal ht (hT _ _ h1) hd hx hk
          · rename_i e hd; cases h
            exact snd_lenL hop hcal ht (hT _ _ h1) hd hx hk
          · rename_i e1 e2 hd; cases h
            exact snd_lenM hop hcal ht (hT _ _ h1) hd hx hk
          · cases h
        · cases h
      · cases h
    · rename_i x y hcal hx
      split at h
      · rename_i t u ht hu
        split at h
        · rename_i i j h1 h2
          split at h
          · rename_i e e2 hd1 hd2
            split at h
            · rename_i ie h3
              split at h <;> cases h
              rename_i h4
              exact snd_app hop hcal ht hu (hT _ _ h1) hd1 ⟨_, und_slice (hT _ _ h2) hd2, fun _ => by simp⟩ (hT _ _ h3) h4.1 h4.2.1 h4.2.2 hx hk
            · cases h
          · rename_i e hd1 hd2
            split at h
            · rename_i ie h3
              split at h <;> cases h
              rename_i h4
              exact snd_app hop hcal ht hu (hT _ _ h1) hd1 ⟨_, und_str (hT _ _ h2) hd2, fun _ => by simp⟩ (hT _ _ h3) h4.1 h4.2.1 h4.2.2 hx hk
            · cases h
          · cases h
        · cases h
      · cases h
    · rename_i x y hcal hx
      split at h
      · rename_i t ht
        split at h
        · rename_i i h1
          split at h
          · rename_i e hd
            split at h <;> cases h
            rename_i ie h2
            exact snd_cpy hop hcal ht (hT _ _ h1) hd (hT _ _ h2) hx hk
          · cases h
        · cases h
      · cases h
    · rename_i l hcal hx; cases h
      exact snd_mm (isMin := true) hop hcal hx hk
    · rename_i l hcal hx; cases h
      exact snd_mm (isMin := false) hop hcal hx hk
    · rename_i x y hcal hx
      split at h
      · rename_i t it ht
        split at h
        · rename_i i h1
          split at h
          · rename_i e hd
            split at h
            · rename_i ie h2
              split at h <;> cases h
              rename_i hd2
              exact snd_ustr hop hcal ⟨it, by apply Array.ext'; exact ht⟩ (hT _ _ h1) hd (hT _ _ h2) hd2 hx hk
            · cases h
          · cases h
        · cases h
      · cases h
    · rename_i f l hcal hx
      split at h
      · rename_i f
        split at h
        · rename_i e he; cases h
          exact snd_ext hop hcal (hC.ext _ _ he) hx hk
        · cases h
          exact snd_call hcall hop hcal hx hk
      · rename_i f
        split at h <;> cases h
        rename_i x hf
        exact snd_callv hcall hop hcal hf hx hk
    · cases h
  | _ => simp [compO, hop] at h
end
end Go.Ev
