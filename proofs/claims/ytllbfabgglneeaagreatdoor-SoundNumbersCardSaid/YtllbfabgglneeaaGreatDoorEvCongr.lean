/- DERIVED. What an operation looks at; what leaves memory alone; what lays something new. -/
import Derived.Test.YtllbfabgglneeaaGreatDoorEvRegion
import Derived.Orders
set_option linter.unusedVariables false
set_option linter.unusedSimpArgs false
namespace Go.Ev
section
variable {P : Program} {C : Ctx} {call : CallF} {v v' : Env} {s : St} {k : KO}

theorem getK_congr {x : Od} (h : x.den v = x.den v') : getK v x = getK v' x := by
  funext k
  rw [Bool.eq_iff_iff, getK_iff, getK_iff, h]
theorem getsK_congr : ∀ {l : List Od}, (∀ x ∈ l, x.den v = x.den v') → getsK v l = getsK v' l
  | [], _ => rfl
  | x :: r, h => by
    funext k
    have h1 : ∀ w : Env, getsK w (x :: r) k = getK w x (fun y => getsK w r (fun q => k (y :: q))) := fun _ => rfl
    rw [h1, h1, getK_congr (h x (by simp)), getsK_congr (fun y hy => h y (by simp [hy]))]
theorem partsK_congr : ∀ {ps : List (Nat × Nat × Od)}, (∀ x ∈ psO ps, x.den v = x.den v') → partsK v ps = partsK v' ps
  | [], _ => rfl
  | (a, b, x) :: r, h => by
    funext cs k
    have h1 : ∀ w : Env, partsK w ((a, b, x) :: r) cs k = getK w x (fun y => cellsK y (fun l => lenK l (fun m => boolK (Nat.beq m b) (overK l cs a (fun cs' => partsK w r cs' k)) false))) := fun _ => rfl
    rw [h1, h1, getK_congr (h x (by simp [psO])), partsK_congr (fun y hy => h y (by simp [psO, hy]))]
theorem bndK_congr {x : Option Od} (h : ∀ y ∈ oneO x, y.den v = y.den v') : bndK v x = bndK v' x := by
  cases x with
  | none => rfl
  | some y =>
    funext a b k
    have h1 : ∀ w : Env, bndK w (some y) a b k = getK w y (fun y => asInt y (fun _ n => Int.rec (motive := fun _ => Bool) (fun m => boolK (Nat.ble m b) (k m) false) (fun _ => false) n)) := fun _ => rfl
    rw [h1, h1, getK_congr (h y (by simp [oneO]))]
theorem ixK_congr {x : Od} (h : x.den v = x.den v') : ixK v x = ixK v' x := by
  funext n k; unfold ixK; rw [getK_congr h]
theorem opK_congr (c : Co) (h : ∀ x ∈ c.ods, x.den v = x.den v') : opK c call v s k = opK c call v' s k := by
  cases c
  case bad => rfl
  case new => rfl
  case mkmap => rfl
  case pick x y z => exact (by unfold oPick; rw [getK_congr (h x (by simp [Co.ods])), getK_congr (h y (by simp [Co.ods])), getK_congr (h z (by simp [Co.ods]))] : oPick x y z v s k = oPick x y z v' s k)
  case mupd q x y z => exact (by unfold oMupd; rw [getK_congr (h x (by simp [Co.ods])), getK_congr (h y (by simp [Co.ods])), getK_congr (h z (by simp [Co.ods]))] : oMupd q x y z v s k = oMupd q x y z v' s k)
  case build z ps => exact (by unfold oBuild; rw [partsK_congr h] : oBuild z ps v s k = oBuild z ps v' s k)
  case bslice n z ps t => exact (by unfold oBslice; rw [partsK_congr h] : oBslice n z ps t v s k = oBslice n z ps t v' s k)
  case mkfn f a b => exact (by unfold oMkfn; rw [getsK_congr (fun x hx => h x (by simp [Co.ods, hx])), getsK_congr (fun x hx => h x (by simp [Co.ods, hx]))] : oMkfn f a b v s k = oMkfn f a b v' s k)
  case slStr x a b => exact (by unfold oSlStr; rw [getK_congr (h x (by simp [Co.ods])), bndK_congr (fun y hy => h y (by simp [Co.ods, hy])), bndK_congr (fun y hy => h y (by simp [Co.ods, hy]))] : oSlStr x a b v s k = oSlStr x a b v' s k)
  case sl n x a b => exact (by unfold oSl; rw [getK_congr (h x (by simp [Co.ods])), bndK_congr (fun y hy => h y (by simp [Co.ods, hy])), bndK_congr (fun y hy => h y (by simp [Co.ods, hy]))] : oSl n x a b v s k = oSl n x a b v' s k)
  case slArr n m x a b => exact (by unfold oSlArr; rw [getK_congr (h x (by simp [Co.ods])), bndK_congr (fun y hy => h y (by simp [Co.ods, hy])), bndK_congr (fun y hy => h y (by simp [Co.ods, hy]))] : oSlArr n m x a b v s k = oSlArr n m x a b v' s k)
  case sl3 n x a b c => exact (by unfold oSl3; rw [getK_congr (h x (by simp [Co.ods])), bndK_congr (x := a) (fun y hy => h y (by simp [Co.ods, hy])), bndK_congr (x := some b) (fun y hy => h y (by simp [oneO] at hy; simp [Co.ods, hy])), bndK_congr (x := some c) (fun y hy => h y (by simp [oneO] at hy; simp [Co.ods, hy]))] : oSl3 n x a b c v s k = oSl3 n x a b c v' s k)
  case ext e l => exact (by unfold oExt; rw [getsK_congr (l := l) h] : oExt e l v s k = oExt e l v' s k)
  case mm b l => exact (by unfold oMm; rw [getsK_congr (l := l) h] : oMm b l v s k = oMm b l v' s k)
  case call f l => exact (by unfold oCall; rw [getsK_congr (l := l) h] : oCall f l call v s k = oCall f l call v' s k)
  case callv f l => exact (by unfold oCallv; rw [getK_congr (h f (by simp [Co.ods])), getsK_congr (fun x hx => h x (by simp [Co.ods, hx]))] : oCallv f l call v s k = oCallv f l call v' s k)
  case mkslice a b c x y => exact (by unfold oMkslice; rw [bndK_congr (x := some x) (fun z hz => h z (by simp [oneO] at hz; simp [Co.ods, hz])), bndK_congr (x := some y) (fun z hz => h z (by simp [oneO] at hz; simp [Co.ods, hz]))] : oMkslice a b c x y v s k = oMkslice a b c x y v' s k)
  case idxA n m x y => exact (by unfold oIdxA; rw [getK_congr (h x (by simp [Co.ods])), ixK_congr (h y (by simp [Co.ods]))] : oIdxA n m x y v s k = oIdxA n m x y v' s k)
  case idxS m x y => exact (by unfold oIdxS; rw [getK_congr (h x (by simp [Co.ods])), ixK_congr (h y (by simp [Co.ods]))] : oIdxS m x y v s k = oIdxS m x y v' s k)
  case idxStr x y => exact (by unfold oIdxStr; rw [getK_congr (h x (by simp [Co.ods])), ixK_congr (h y (by simp [Co.ods]))] : oIdxStr x y v s k = oIdxStr x y v' s k)
  case idxV1 n m x y => exact (by unfold oIdxV1; rw [getK_congr (h x (by simp [Co.ods])), ixK_congr (h y (by simp [Co.ods]))] : oIdxV1 n m x y v s k = oIdxV1 n m x y v' s k)
  case idxVN n m x y => exact (by unfold oIdxVN; rw [getK_congr (h x (by simp [Co.ods])), ixK_congr (h y (by simp [Co.ods]))] : oIdxVN n m x y v s k = oIdxVN n m x y v' s k)
  case ustr e x y => exact (by unfold oUstr; rw [getK_congr (h x (by simp [Co.ods])), getK_congr (h y (by simp [Co.ods]))] : oUstr e x y v s k = oUstr e x y v' s k)
  case store n x y => exact (by unfold oStore; rw [getK_congr (h x (by simp [Co.ods])), getK_congr (h y (by simp [Co.ods]))] : oStore n x y v s k = oStore n x y v' s k)
  case ib op x y => exact (by unfold oIb; rw [getK_congr (h x (by simp [Co.ods])), getK_congr (h y (by simp [Co.ods]))] : oIb op x y v s k = oIb op x y v' s k)
  case sb op x y => exact (by unfold oSb; rw [getK_congr (h x (by simp [Co.ods])), getK_congr (h y (by simp [Co.ods]))] : oSb op x y v s k = oSb op x y v' s k)
  case eq g q x y => exact (by unfold oEq; rw [getK_congr (h x (by simp [Co.ods])), getK_congr (h y (by simp [Co.ods]))] : oEq g q x y v s k = oEq g q x y v' s k)
  case eqi g ts us x y => exact (by unfold oEqi; rw [getK_congr (h x (by simp [Co.ods])), getK_congr (h y (by simp [Co.ods]))] : oEqi g ts us x y v s k = oEqi g ts us x y v' s k)
  case look q z ok x y => exact (by unfold oLook; rw [getK_congr (h x (by simp [Co.ods])), getK_congr (h y (by simp [Co.ods]))] : oLook q z ok x y v s k = oLook q z ok x y v' s k)
  case app n t x y => exact (by unfold oApp; rw [getK_congr (h x (by simp [Co.ods])), getK_congr (h y (by simp [Co.ods]))] : oApp n t x y v s k = oApp n t x y v' s k)
  case cpy n x y => exact (by unfold oCpy; rw [getK_congr (h x (by simp [Co.ods])), getK_congr (h y (by simp [Co.ods]))] : oCpy n x y v s k = oCpy n x y v' s k)
  case del q x y => exact (by unfold oDel; rw [getK_congr (h x (by simp [Co.ods])), getK_congr (h y (by simp [Co.ods]))] : oDel q x y v s k = oDel q x y v' s k)
  case s2b t x => exact (by unfold oS2b; rw [getK_congr (h x (by simp [Co.ods]))] : oS2b t x v s k = oS2b t x v' s k)
  case mv x => exact (by unfold oMv; rw [getK_congr (h x (by simp [Co.ods]))] : oMv x v s k = oMv x v' s k)
  case mvs x => exact (by unfold oMvs; rw [getK_congr (h x (by simp [Co.ods]))] : oMvs x v s k = oMvs x v' s k)
  case box x t => exact (by unfold oBox; rw [getK_congr (h x (by simp [Co.ods]))] : oBox x t v s k = oBox x t v' s k)
  case load1 x => exact (by unfold oLoad1; rw [getK_congr (h x (by simp [Co.ods]))] : oLoad1 x v s k = oLoad1 x v' s k)
  case loadN n x => exact (by unfold oLoadN; rw [getK_congr (h x (by simp [Co.ods]))] : oLoadN n x v s k = oLoadN n x v' s k)
  case nilck x => exact (by unfold oNilck; rw [getK_congr (h x (by simp [Co.ods]))] : oNilck x v s k = oNilck x v' s k)
  case neg x => exact (by unfold oNeg; rw [getK_congr (h x (by simp [Co.ods]))] : oNeg x v s k = oNeg x v' s k)
  case not x => exact (by unfold oNot; rw [getK_congr (h x (by simp [Co.ods]))] : oNot x v s k = oNot x v' s k)
  case conv kk x => exact (by unfold oConv; rw [getK_congr (h x (by simp [Co.ods]))] : oConv kk x v s k = oConv kk x v' s k)
  case b2s x => exact (by unfold oB2s; rw [getK_congr (h x (by simp [Co.ods]))] : oB2s x v s k = oB2s x v' s k)
  case mkif t x => exact (by unfold oMkif; rw [getK_congr (h x (by simp [Co.ods]))] : oMkif t x v s k = oMkif t x v' s k)
  case faddr o x => exact (by unfold oFaddr; rw [getK_congr (h x (by simp [Co.ods]))] : oFaddr o x v s k = oFaddr o x v' s k)
  case fld1 o x => exact (by unfold oFld1; rw [getK_congr (h x (by simp [Co.ods]))] : oFld1 o x v s k = oFld1 o x v' s k)
  case fldN o n x => exact (by unfold oFldN; rw [getK_congr (h x (by simp [Co.ods]))] : oFldN o n x v s k = oFldN o n x v' s k)
  case rng x => exact (by unfold oRng; rw [getK_congr (h x (by simp [Co.ods]))] : oRng x v s k = oRng x v' s k)
  case next x => exact (by unfold oNext; rw [getK_congr (h x (by simp [Co.ods]))] : oNext x v s k = oNext x v' s k)
  case tass t z ok x => exact (by unfold oTass; rw [getK_congr (h x (by simp [Co.ods]))] : oTass t z ok x v s k = oTass t z ok x v' s k)
  case extr i x => exact (by unfold oExtr; rw [getK_congr (h x (by simp [Co.ods]))] : oExtr i x v s k = oExtr i x v' s k)
  case and1 x => exact (by unfold oAnd1; rw [getK_congr (h x (by simp [Co.ods]))] : oAnd1 x v s k = oAnd1 x v' s k)
  case lenS x => exact (by unfold oLenS; rw [getK_congr (h x (by simp [Co.ods]))] : oLenS x v s k = oLenS x v' s k)
  case lenL x => exact (by unfold oLenL; rw [getK_congr (h x (by simp [Co.ods]))] : oLenL x v s k = oLenL x v' s k)
  case lenM x => exact (by unfold oLenM; rw [getK_congr (h x (by simp [Co.ods]))] : oLenM x v s k = oLenM x v' s k)

/-- What leaves memory alone. -/
theorem quiet_eq (c : Co) (hq : isQuiet c = true) : opK c call v s k = opK c call v s (fun x _ => k x s) := by
  cases c
  case mv x => exact (by unfold oMv; rfl : oMv x v s k = oMv x v s (fun x _ => k x s))
  case mvs x => exact (by unfold oMvs; rfl : oMvs x v s k = oMvs x v s (fun x _ => k x s))
  case pick x y z => exact (by unfold oPick; rfl : oPick x y z v s k = oPick x y z v s (fun x _ => k x s))
  case build z ps => exact (by unfold oBuild; rfl : oBuild z ps v s k = oBuild z ps v s (fun x _ => k x s))
  case load1 x => exact (by unfold oLoad1; rfl : oLoad1 x v s k = oLoad1 x v s (fun x _ => k x s))
  case loadN n x => exact (by unfold oLoadN; rfl : oLoadN n x v s k = oLoadN n x v s (fun x _ => k x s))
  case nilck x => exact (by unfold oNilck; rfl : oNilck x v s k = oNilck x v s (fun x _ => k x s))
  case ib op x y => exact (by unfold oIb; rfl : oIb op x y v s k = oIb op x y v s (fun x _ => k x s))
  case sb op x y => exact (by unfold oSb; rfl : oSb op x y v s k = oSb op x y v s (fun x _ => k x s))
  case eq g q x y => exact (by unfold oEq; rfl : oEq g q x y v s k = oEq g q x y v s (fun x _ => k x s))
  case neg x => exact (by unfold oNeg; rfl : oNeg x v s k = oNeg x v s (fun x _ => k x s))
  case not x => exact (by unfold oNot; rfl : oNot x v s k = oNot x v s (fun x _ => k x s))
  case conv kk x => exact (by unfold oConv; rfl : oConv kk x v s k = oConv kk x v s (fun x _ => k x s))
  case b2s x => exact (by unfold oB2s; rfl : oB2s x v s k = oB2s x v s (fun x _ => k x s))
  case mkif t x => exact (by unfold oMkif; rfl : oMkif t x v s k = oMkif t x v s (fun x _ => k x s))
  case mkfn f a b => exact (by unfold oMkfn; rfl : oMkfn f a b v s k = oMkfn f a b v s (fun x _ => k x s))
  case slStr x a b => exact (by unfold oSlStr; rfl : oSlStr x a b v s k = oSlStr x a b v s (fun x _ => k x s))
  case sl n x a b => exact (by unfold oSl slIs rowK; rfl : oSl n x a b v s k = oSl n x a b v s (fun x _ => k x s))
  case slArr n m x a b => exact (by unfold oSlArr slIs; rfl : oSlArr n m x a b v s k = oSlArr n m x a b v s (fun x _ => k x s))
  case faddr o x => exact (by unfold oFaddr; rfl : oFaddr o x v s k = oFaddr o x v s (fun x _ => k x s))
  case fld1 o x => exact (by unfold oFld1; rfl : oFld1 o x v s k = oFld1 o x v s (fun x _ => k x s))
  case fldN o n x => exact (by unfold oFldN; rfl : oFldN o n x v s k = oFldN o n x v s (fun x _ => k x s))
  case idxA n m x y => exact (by unfold oIdxA; rfl : oIdxA n m x y v s k = oIdxA n m x y v s (fun x _ => k x s))
  case idxS m x y => exact (by unfold oIdxS; rfl : oIdxS m x y v s k = oIdxS m x y v s (fun x _ => k x s))
  case idxStr x y => exact (by unfold oIdxStr; rfl : oIdxStr x y v s k = oIdxStr x y v s (fun x _ => k x s))
  case idxV1 n m x y => exact (by unfold oIdxV1; rfl : oIdxV1 n m x y v s k = oIdxV1 n m x y v s (fun x _ => k x s))
  case idxVN n m x y => exact (by unfold oIdxVN; rfl : oIdxVN n m x y v s k = oIdxVN n m x y v s (fun x _ => k x s))
  case look q z ok x y => exact (by unfold oLook okK; rfl : oLook q z ok x y v s k = oLook q z ok x y v s (fun x _ => k x s))
  case tass t z ok x => exact (by unfold oTass okK; rfl : oTass t z ok x v s k = oTass t z ok x v s (fun x _ => k x s))
  case extr i x => exact (by unfold oExtr; rfl : oExtr i x v s k = oExtr i x v s (fun x _ => k x s))
  case lenS x => exact (by unfold oLenS retN; rfl : oLenS x v s k = oLenS x v s (fun x _ => k x s))
  case lenL x => exact (by unfold oLenL retN; rfl : oLenL x v s k = oLenL x v s (fun x _ => k x s))
  case lenM x => exact (by unfold oLenM retN; rfl : oLenM x v s k = oLenM x v s (fun x _ => k x s))
  case mm b l => exact (by unfold oMm; rfl : oMm b l v s k = oMm b l v s (fun x _ => k x s))
  all_goals (simp [isQuiet] at hq)
end
end Go.Ev
