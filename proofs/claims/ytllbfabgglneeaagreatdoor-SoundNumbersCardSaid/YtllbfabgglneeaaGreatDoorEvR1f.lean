/- DERIVED. From a row's world to the ideal machine and back: the wrap of rows that list variables, the world's shape kept; what 'kept' says of the form's frame. -/
import Derived.Test.YtllbfabgglneeaaGreatDoorEvR1e
import Derived.ProofKit
import Derived.OpenShut
import Derived.LaidMore
import Derived.Lay
import Derived.SevenTiedAt
import Derived.Stop.Joined
set_option linter.unusedVariables false
namespace Go.Ev
variable {H : Type} {enc : TypeId × Value → H}
theorem Kept.keptBut {w w' : World} (h : Kept w w') (may : MemPlace → Prop) : w.keptBut w' may := by
  refine ⟨h.os, h.out, fun i hi => ?_⟩
  rw [h.old i hi]
  cases e : w.heap[i]? with
  | none => rfl
  | some o => cases o <;> first | exact ⟨rfl, rfl, rfl, fun _ _ => rfl⟩ | exact .inr ⟨rfl, rfl⟩ | rfl
end Go.Ev
namespace Go
variable {H : Type} {enc : TypeId × Value → H}
theorem returnsInHanded_shaped {a : Assume} {C : Checked} {os : Os} {f : FuncId} {fn : Func} {s : ChangeSpec} {conds : List PathCond} {apart fresh handsOn again : Bool} {X : World → Array Value → Prop}
    (hX : ∀ (w w' : World) (args : Array Value), w.heap = w'.heap → X w args → X w' args)
    (own : ownKnob C.prog.godebug = none) (started : os.Started) (noInit : C.prog.inits.idxOf? f = none) (hfn : C.prog.funcs[f]? = some fn)
    (witness : ∃ (w : World) (tape : Tape) (i : Input), w.os = os ∧ (w.forCall tape i).Shaped C.prog ∧ i.vars = [] ∧ Input.okWide C.prog (w.forCall tape i) .any w.heap.size f i ∧
      ((s.pre enc C.prog fn conds apart (w.forCall tape i).memory i.args ∧ X (w.forCall tape i).memory i.args) ∧ sizedMet enc C.prog fn (OpenSpec.ofChange s) apart (w.forCall tape i).memory i.args) ∧ a.holds C.prog (lone (Frame.enter C.prog f i.args .normal) [] (w.forCall tape i)))
    (contract : ∀ (W : World) (base : Nat) (args : Array Value) (ds gs : List (DataW H)) (before : List MemPlace),
      (∀ (j : Nat) t v, fn.params[j]? = some t → args[j]? = some v → Value.okWide C.prog W .any base t v) →
      DataW.Whole enc C.prog fn.params.toList s.vars apart W args.toList ds gs before →
      conds.all (PathCond.test C.prog ⟨fn.params.toList, ds, s.plain.varTypes C.prog, gs⟩) = true →
      X W args → W.ShapedOpen C.prog →
      Calls C.prog f args W fun e W' => ∃ v, e = .returned v ∧ s.post enc C.prog fn apart fresh handsOn again W args v W') :
    ReturnsInHanded a C os f .any (fun w args => (s.pre enc C.prog fn conds apart w args ∧ X w args) ∧ sizedMet enc C.prog fn (OpenSpec.ofChange s) apart w args) (s.post enc C.prog fn apart fresh handsOn again) := by
  refine returnsInHanded_of_calls own started noInit witness ?_
  intro w tape i _ hsh _ hok hpre hholds
  obtain ⟨_, _, _, fn', hfn', _, _, _, _, hval⟩ := hok
  have e : fn' = fn := Option.some.inj (hfn'.symm.trans hfn)
  subst e
  obtain ⟨⟨⟨ds, gs, before, hw, hc⟩, hx⟩, hz⟩ := hpre
  have hw' := DataW.Whole.of_heap (w' := w.forCall tape i) (by rfl) hw
  refine (contract (w.forCall tape i) w.heap.size i.args ds gs before hval hw' hc (hX _ _ _ (by rfl) hx) hsh).mono fun e W' ⟨v, he, hp⟩ => ?_
  subst he
  exact ChangeSpec.post_blind hp
end Go
namespace Go.Ev.R1
open Go Go.Ev Go.Proofs
theorem own : ownKnob Tryz.prog.godebug = none := by kernel_rfl
/-- Answers of 'Place' that 'p' lists. -/
def qOf (p : Nat → List Nat) (a n : Int) : Bool := decide ((a % n).toNat ∈ p n.toNat)
theorem co_ok (p : Nat → List Nat) : CallOk Tryz.prog CB (CO p (qOf p)) :=
  CallOk.glob (C := CX) rfl (callO_sound (fun a n h => of_decide_eq_true h) place_ok awake10 (calls_ok _ _))
/-- A call at the top that the ideal machine says true of, in every world that fits. -/
theorem said {f : FuncId} {c : Ev.Fn} (hfn : FnOk Tryz.prog CB f c) {args : List IV} {vs : List Value} (hcs : ∀ ρ, concs ρ args = some vs) {W : World} (hs : W.ShapedOpen Tryz.prog) (hl : Two W)
    (h : ∀ m tR tS, ∃ p, runK (CO p (qOf p)) 1000000 c args (s1 m tR tS) isTrue = true) : Calls Tryz.prog f vs.toArray W fun e w' => e = .returned (.bool true) ∧ Kept W w' := by
  obtain ⟨ρ, m, tR, tS, hg, hm, hd⟩ := mem1 hs hl
  obtain ⟨p, hp⟩ := h m tR tS
  exact top_sound cb_ok (co_ok p) mixed 1000000 hfn hp hg (hcs ρ) hm hd (s1_ro m tR tS)
end Go.Ev.R1
