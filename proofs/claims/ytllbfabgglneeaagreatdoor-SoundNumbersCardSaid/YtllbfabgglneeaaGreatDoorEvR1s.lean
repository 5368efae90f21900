/- DERIVED. The first memory of the first round, as the ideal machine sees it. -/
import Derived.Test.YtllbfabgglneeaaGreatDoorEvR1b
set_option linter.unusedVariables false
namespace Go.Ev.R1
open Go Go.Ev
def bMax (m : Int) : Blk := .cells [.int .i64 m] false 0 3
def bSyn : Blk := .cells [.iface 213 (.ptr (.o (.i (.o .e))) 0)] false 0 170
def bRng : Blk := .cells [.iface 213 (.ptr (.i (.o (.o .e))) 0)] false 0 170
def bTxt (l n : Nat) (t : TypeId) : Blk := .cells [.str l n] false 0 t
def txtRng : Nat := 8833536683947734889501819473892098087608694
def txtSyn : Nat := 2441610318018593579359549976374889
/-- 'bytealg.MaxLen' (m, whatever it is), 'strconv.ErrSyntax', 'strconv.ErrRange' and what these point to. -/
noncomputable def s1 (m : Int) (tR tS : TypeId) : St := { m := (.node (.node (.node .leaf (some bSyn) .leaf) none (.node (.node .leaf (some (bTxt 14 txtSyn tS)) .leaf) none .leaf)) (some (bMax m)) (.node (.node (.node .leaf (some (bTxt 18 txtRng tR)) .leaf) (some bRng) .leaf) none .leaf)), nx := P2.ofNat 10 }
/-- Calls, as they are served at the top. -/
noncomputable def CO (p : Nat → List Nat) (q : Int → Int → Bool) : CallF := callO p q 14 12 3 (callK T 1000000 100)
end Go.Ev.R1
