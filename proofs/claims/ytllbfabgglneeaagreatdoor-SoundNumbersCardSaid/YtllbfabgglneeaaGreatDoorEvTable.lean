/- DERIVED. Calls by a table of functions: the ideal machine's against the model's. -/
import Derived.Test.YtllbfabgglneeaaGreatDoorEvCode
set_option linter.unusedVariables false
set_option linter.unusedSimpArgs false
namespace Go.Ev
section
variable {P : Program} {C : Ctx} {call : CallF}

/-! ### The first temporaries -/
theorem take8_eq : ∀ (n : Nat) (l : List IV) (k : List IV → List IV → Bool), take8 n l k = k ((List.range n).map fun j => l.getD j (.tup [])) (l.drop n)
  | 0, l, k => by show k [] l = _; simp
  | n + 1, l, k => by
    cases l with
    | nil =>
      have h1 : take8 (n + 1) [] k = take8 n [] (fun a r => k (.tup [] :: a) r) := rfl
      rw [h1, take8_eq n, List.range_succ_eq_map]
      simp [Function.comp_def]
    | cons x xs =>
      have h1 : take8 (n + 1) (x :: xs) k = take8 n xs (fun a r => k (x :: a) r) := rfl
      rw [h1, take8_eq n, List.range_succ_eq_map]
      simp [Function.comp_def]
theorem envK_iff (rest : Nat) : ∀ (chunks : Nat) (l : List IV) (k : Env → Bool), envK rest chunks l k = true →
    ∃ v : Env, k v = true ∧ l.length ≤ chunks * 8 + rest ∧ ∀ t x, v.at t = some x → t < chunks * 8 + max rest 0 ∧ x = l.getD t (.tup [])
  | 0, l, k, h => by
    have h1 : take8 rest l (fun a r => List.rec (motive := fun _ => Bool) (k [a]) (fun _ _ _ => false) r) = true := h
    rw [take8_eq] at h1
    cases hd : l.drop rest with
    | cons y ys => rw [hd] at h1; cases h1
    | nil =>
      rw [hd] at h1
      have hlen : l.length ≤ rest := by simpa using hd
      refine ⟨_, h1, by omega, fun t x ht => ?_⟩
      unfold Env.at at ht
      by_cases e : t / 8 = 0
      · rw [e] at ht
        simp only [List.getElem?_cons_zero, Option.bind_some, List.getElem?_map] at ht
        have hm : t % 8 = t := by omega
        rw [hm] at ht
        by_cases hlt : t < rest
        · rw [List.getElem?_range hlt] at ht
          simp at ht
          exact ⟨by omega, by rw [← ht]; simp⟩
        · rw [List.getElem?_eq_none (by simp; omega)] at ht; cases ht
      · have : ([(List.range rest).map fun j => l.getD j (.tup [])] : Env)[t / 8]? = none := List.getElem?_eq_none (by simp; omega)
        rw [this] at ht; cases ht
  | n + 1, l, k, h => by
    have h1 : take8 8 l (fun a r => envK rest n r (fun v => k (a :: v))) = true := h
    rw [take8_eq] at h1
    obtain ⟨v, hk, hlen, hv⟩ := envK_iff rest n _ _ h1
    refine ⟨_, hk, by simp at hlen; omega, fun t x ht => ?_⟩
    unfold Env.at at ht
    by_cases e : t / 8 = 0
    · rw [e] at ht
      simp only [List.getElem?_cons_zero, Option.bind_some, List.getElem?_map] at ht
      have hm : t % 8 = t := by omega
      rw [hm] at ht
      rw [List.getElem?_range (show t < 8 by omega)] at ht
      simp at ht
      exact ⟨by omega, by rw [← ht]; simp⟩
    · obtain ⟨q, hq⟩ : ∃ q, t / 8 = q + 1 := ⟨t / 8 - 1, by omega⟩
      rw [hq, List.getElem?_cons_succ] at ht
      have h8 : v.at (t - 8) = some x := by
        unfold Env.at
        rw [show (t - 8) / 8 = q by omega, show (t - 8) % 8 = t % 8 by omega]; exact ht
      obtain ⟨h2, h3⟩ := hv _ _ h8
      refine ⟨by omega, ?_⟩
      rw [h3]
      simp only [List.getD_eq_getElem?_getD, List.getElem?_drop]
      rw [show 8 + (t - 8) = t by omega]
/-- The first temporaries, in a world. -/
theorem env_first {ρ : Rho} {l : List IV} {vs : List Value} (hc : concs ρ l = some vs) {n rest chunks : Nat} (hn : n = chunks * 8 + rest) {v : Env} (hlen : l.length ≤ chunks * 8 + rest)
    (hv : ∀ t x, v.at t = some x → t < chunks * 8 + max rest 0 ∧ x = l.getD t (.tup [])) : EnvRel ρ v (vs.toArray ++ Array.replicate (n - vs.toArray.size) undef) := by
  obtain ⟨h1, h2⟩ := (concs_iff _ _ _).1 hc
  intro t x ht
  obtain ⟨hlt, hx⟩ := hv t x ht
  refine ⟨by simp; omega, ?_⟩
  rw [Array.getD_eq_getD_getElem?, Array.getElem?_append]
  by_cases e : t < l.length
  · rw [if_pos (by simp; omega)]
    obtain ⟨u, hu, hcu⟩ := h2 t _ (List.getElem?_eq_getElem e)
    rw [hx, List.getD_eq_getElem?_getD, List.getElem?_eq_getElem e, Option.getD_some, hcu]
    simp [hu]
  · rw [if_neg (by simp; omega)]
    rw [hx, List.getD_eq_getElem?_getD, List.getElem?_eq_none (by omega), Option.getD_none, conc_undef]
    rw [Array.getElem?_replicate]
    split <;> rfl

/-! ### Results -/
def resOne (tmps : Array Value) : ResultVar → Sem Value
  | .tmp t => pure (tmps.getD t undef)
  | .cell a t => do loadVar t (← asAddr (tmps.getD a undef))
theorem results_eq (fn : Func) (tmps : Array Value) : results fn tmps = (do
    let vs ← fn.results.mapM (resOne tmps)
    pure (if h : vs.size = 1 then vs[0] else .tuple vs)) := by
  unfold results
  congr 1
theorem rsK_sound (hC : CtxOk P C) {r : ResultVar} {rs : Rs} (h : compR C r = some rs) {v : Env} {s : St} {k : IV → Bool} (hk : rsK v s rs k = true) :
    ∃ x, k x = true ∧ ∀ (ρ : Rho) (a : Act) (w : World), Glob C ρ → EnvRel ρ v a.tmps → MemRel ρ s w → ∃ u, (resOne a.tmps r).run P w = .ok u w ∧ conc ρ x = some u := by
  cases r with
  | tmp t =>
    simp only [compR, Option.some.injEq] at h; subst h
    have h1 : getK v (.t (t / 8) (t % 8)) k = true := hk
    rw [getK_iff] at h1
    obtain ⟨x, hx, h1⟩ := h1
    rw [at_mk] at hx
    exact ⟨x, h1, fun ρ a w hg he hm => ⟨_, rfl, (he t x hx).2⟩⟩
  | cell t ty =>
    simp only [compR] at h
    split at h
    · rename_i i hi
      have hti := hC.ty _ _ hi
      cases ha : i.d.agg
      · simp only [ha, Bool.false_eq_true, if_false, Option.some.injEq] at h; subst h
        have h1 : oLoad1 (.t (t / 8) (t % 8)) v s (fun x _ => k x) = true := hk
        simp only [oLoad1, getK_iff, asPtr_iff, getC_iff, nthK_iff] at h1
        obtain ⟨z, hz, p, off, rfl, cs, wr, sz, u, hs, x', hx, hk'⟩ := h1
        rw [at_mk] at hz
        refine ⟨x', hk', fun ρ a w hg he hm => ?_⟩
        obtain ⟨L, hL, e⟩ := ptr_inv (he t _ hz).2
        obtain ⟨c, hc, hw⟩ := cell_at hm hL hs hx
        exact ⟨c, by simp [resOne, e, asAddr, run_load1 hti ha hw], hc⟩
      · simp only [ha, if_true, Option.some.injEq] at h; subst h
        have h1 : oLoadN i.size (.t (t / 8) (t % 8)) v s (fun x _ => k x) = true := hk
        simp only [oLoadN, getK_iff, asPtr_iff, getC_iff, dropK_iff, takeK_iff] at h1
        obtain ⟨z, hz, p, off, rfl, cs, wr, sz, u, hs, h2, h3, hk'⟩ := h1
        rw [at_mk] at hz
        refine ⟨_, hk', fun ρ a w hg he hm => ?_⟩
        obtain ⟨L, hL, e⟩ := ptr_inv (he t _ hz).2
        obtain ⟨us, hus, hl, hw⟩ := cells_at hm hL hs h2 h3
        exact ⟨.agg us.toArray, by simp [resOne, e, asAddr, run_loadN hti ha hl hw], by simp [conc, hus]⟩
    · cases h
theorem rssK_sound (hC : CtxOk P C) : ∀ (l : List ResultVar) (rs : List Rs), compRs C l = some rs → ∀ (v : Env) (s : St) (k : List IV → Bool), rssK v s rs k = true →
    ∃ xs, k xs = true ∧ ∀ (ρ : Rho) (a : Act) (w : World), Glob C ρ → EnvRel ρ v a.tmps → MemRel ρ s w → ∃ us, (l.mapM (resOne a.tmps)).run P w = .ok us w ∧ concs ρ xs = some us
  | [], rs, h, v, s, k, hk => by
    simp [compRs] at h; subst h
    exact ⟨[], hk, fun ρ a w hg he hm => ⟨[], by simp, rfl⟩⟩
  | r :: l, rs, h, v, s, k, hk => by
    simp only [compRs] at h
    split at h <;> cases h
    rename_i r' l' hr hl
    have h1 : rsK v s r' (fun x => rssK v s l' (fun q => k (x :: q))) = true := hk
    obtain ⟨x, hk1, hx⟩ := rsK_sound (P := P) hC hr h1
    obtain ⟨xs, hk2, hxs⟩ := rssK_sound hC l l' hl v s _ hk1
    refine ⟨x :: xs, hk2, fun ρ a w hg he hm => ?_⟩
    obtain ⟨u, hu1, hu2⟩ := hx ρ a w hg he hm
    obtain ⟨us, hus1, hus2⟩ := hxs ρ a w hg he hm
    exact ⟨u :: us, by simp [hu1, hus1], by simp [concs, hu2, hus2]⟩
theorem lone_sound {l : List IV} {k : IV → Bool} (h : Ev.lone l k = true) : ∃ x, k x = true ∧ ∀ (ρ : Rho) (us : List Value), concs ρ l = some us → conc ρ x = some (if h : us.toArray.size = 1 then us.toArray[0] else .tuple us.toArray) := by
  match l with
  | [] => exact ⟨.tup [], h, fun ρ us hc => by simp [concs] at hc; subst hc; simp [conc, concs]⟩
  | [x] =>
    refine ⟨x, h, fun ρ us hc => ?_⟩
    simp only [concs] at hc
    cases hx : conc ρ x with
    | none => simp [hx] at hc
    | some u => simp [hx] at hc; subst hc; simp
  | x :: y :: q =>
    refine ⟨.tup (x :: y :: q), h, fun ρ us hc => ?_⟩
    have hlen := ((concs_iff _ _ _).1 hc).1
    have : ¬ us.toArray.size = 1 := by simp at hlen ⊢; omega
    rw [dif_neg this]
    simp [conc, hc]

/-! ### Calls -/
/-- A function and its compact code. -/
structure FnOk (P : Program) (C : Ctx) (f : FuncId) (c : Fn) : Prop where
  ex : ∃ fn, P.funcs[f]? = some fn ∧ fn.body.isNone = false ∧ (fn.name == "runtime.NumGoroutine") = false ∧ compF C fn = some c
theorem finish_sound (hC : CtxOk P C) {fn : Func} {rs : List Rs} (hrs : compRs C fn.results.toList = some rs) {v : Env} {s : St} {k : KO} (hk : rssK v s rs (fun l => Ev.lone l (fun x => k x s)) = true) :
    ∃ x, k x s = true ∧ ∀ (ρ : Rho) (a : Act) (w : World), Glob C ρ → EnvRel ρ v a.tmps → MemRel ρ s w → ∃ u, (results fn a.tmps).run P w = .ok u w ∧ conc ρ x = some u := by
  obtain ⟨xs, hk1, hxs⟩ := rssK_sound (P := P) hC _ _ hrs _ _ _ hk
  obtain ⟨x, hk2, hx⟩ := lone_sound hk1
  refine ⟨x, hk2, fun ρ a w hg he hm => ?_⟩
  obtain ⟨us, h1, h2⟩ := hxs ρ a w hg he hm
  refine ⟨_, ?_, hx ρ us h2⟩
  rw [results_eq, Array.mapM_eq_mapM_toList]
  simp [h1]
theorem callK_sound {T : FuncId → (Fn → Bool) → Bool} (hC : CtxOk P C) (hmix : P.follows .mixedOrders = true)
    (hT : ∀ f k, T f k = true → ∃ c, k c = true ∧ FnOk P C f c) (fuel : Nat) : ∀ depth, CallOk P C (callK T fuel depth)
  | 0 => fun f args s k h => by cases h
  | d + 1 => fun f args s k h => by
    have ih := callK_sound hC hmix hT fuel d
    obtain ⟨c, hc, ⟨fn, hf, hb, hnm, hcomp⟩⟩ := hT f _ h
    obtain ⟨body, chunks, rest, res⟩ := c
    have hc' : envK rest chunks args (fun v => cdK (callK T fuel d) fuel body v s (fun v' s' => rssK v' s' res (fun l => Ev.lone l (fun x => k x s'))) (fun _ _ _ => false) (fun v' s' => rssK v' s' res (fun l => Ev.lone l (fun x => k x s')))) = true := hc
    obtain ⟨v, hk, hlen, hv⟩ := envK_iff _ _ _ _ hc'
    simp only [compF] at hcomp
    split at hcomp
    · rename_i code hcode
      split at hcomp <;> cases hcomp
      rename_i hcd hrs
      obtain ⟨e, v1, s1, hgo, hnx, hrun, _⟩ := code_sound hC ih hmix fuel code body hcd v s _ _ _ hk
      have main : (e = .normal ∨ e = .ret) → rssK v1 s1 res (fun l => Ev.lone l (fun x => k x s1)) = true →
          ∃ x s', k x s' = true ∧ s.nx.num ≤ s'.nx.num ∧ (∃ fn, P.funcs[f]? = some fn ∧ fn.body.isNone = false ∧ (fn.name == "runtime.NumGoroutine") = false) ∧
            ∀ (ρ : Rho) (w : World) (vs : List Value), Glob C ρ → concs ρ args = some vs → MemRel ρ s w → NoDom ρ s s' →
              Calls P f vs.toArray w fun e w' => ∃ xv, e = .returned xv ∧ ∃ ρ', conc ρ' x = some xv ∧ Step ρ s w ρ' s' w' := by
        intro he hres
        obtain ⟨x, hkx, hfin⟩ := finish_sound (P := P) hC hrs hres
        refine ⟨x, s1, hkx, hnx, ⟨fn, hf, hb, hnm⟩, fun ρ w vs hg hcs hm hn => calls_of_wp hf hcode ?_⟩
        refine hrun ρ _ w _ hg (env_first hcs (n := fn.ntmps) (by omega) hlen hv) hm hn fun a' w' ho => ?_
        obtain ⟨ρ1, he1, hst1⟩ := ho.ex
        obtain ⟨u, hu1, hu2⟩ := hfin ρ1 a' w' (hg.mono hst1.ext) he1 hst1.mem
        rcases he with rfl | rfl
        · exact ⟨ho.defers, u, hu1, u, rfl, ρ1, hu2, hst1⟩
        · exact ⟨ho.defers, u, hu1, u, rfl, ρ1, hu2, hst1⟩
      cases e with
      | normal => exact main (.inl rfl) hgo
      | ret => exact main (.inr rfl) hgo
      | exit id => cases hgo
      | _ => exact hgo.elim
    · cases hcomp
end
end Go.Ev
