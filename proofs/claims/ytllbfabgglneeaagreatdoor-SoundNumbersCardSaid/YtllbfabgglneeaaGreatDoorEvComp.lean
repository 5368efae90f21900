/- DERIVED. From the model's code to the ideal machine's compact code. -/
import Derived.Test.YtllbfabgglneeaaGreatDoorEvCore
namespace Go.Ev

/-- What a type is, as far as it is asked. -/
inductive D where
  | bool
  | int (k : IntKind)
  | str
  | ptr (e : TypeId)
  | slice (e : TypeId)
  | array (n : Nat) (e : TypeId)
  | struct (fs : List (Nat × TypeId))
  | map (k e : TypeId)
  | func
  | iface
  | other

structure TI where
  d : D
  size : Nat
  bytes : Nat
  zero : List IV

/-- What is known of types; of functions without a body. -/
structure Ctx where
  ty : TypeId → Option TI
  ext : FuncId → Option Ext
  glob : Nat → Bool
  eqs : TypeId → Bool
  pts : List TypeId
  its : List TypeId
  br : Bool

instance : CoeFun Ctx (fun _ => TypeId → Option TI) := ⟨Ctx.ty⟩

def D.agg : D → Bool
  | .struct _ | .array .. => true
  | _ => false

/-- A string's bytes as a number. -/
def packL : List UInt8 → Nat
  | [] => 0
  | b :: r => b.toNat + 256 * packL r

/-- A number's name. -/
def P2.succ : P2 → P2
  | .e => .o .e
  | .o p => .i p
  | .i p => .o p.succ
def P2.ofNat : Nat → P2
  | 0 => .e
  | n + 1 => (P2.ofNat n).succ

/-- A constant of one cell. -/
def lit1 : Value → Option IV
  | .bool b => some (.bool b)
  | .int k n => some (.int k n)
  | .string s => some (.str s.data.toList.length (packL s.data.toList))
  | .pointer none => some .nilp
  | .slice none 0 0 => some .nilsl
  | .map none => some .nilmap
  | .nilFunc => some .nilfn
  | .nilIface => some .nili
  | _ => none

def lits : List Value → Option (List IV)
  | [] => some []
  | v :: r => match lit1 v, lits r with
    | some a, some b => some (a :: b)
    | _, _ => none

def lit : Value → Option IV
  | .tuple ⟨[]⟩ => some (.tup [])
  | .agg cs => match lits cs.toList with
    | some l => some (.agg l)
    | none => none
  | v => lit1 v

def od (C : Ctx) : Operand → Option Od
  | .tmp t => some (.t (t / 8) (t % 8))
  | .const c => match lit c with
    | some v => some (.c v)
    | none => none
  | .global g => if C.glob g then some (.c (.ptr (P2.ofNat g) 0)) else none
  | .func f => some (.c (.fn f [] []))

def ods (C : Ctx) : List Operand → Option (List Od)
  | [] => some []
  | x :: r => match od C x, ods C r with
    | some a, some b => some (a :: b)
    | _, _ => none

def odo (C : Ctx) : Option Operand → Option (Option Od)
  | none => some none
  | some x => match od C x with
    | some a => some (some a)
    | none => none

def ds : Option Tmp → Ds
  | none => .no
  | some t => .t (t / 8) (t % 8)

def eqFs (C : Ctx) : List (Nat × TypeId) → Option (List (Nat × EQ))
  | [] => some []
  | f :: r => match C f.2, eqFs C r with
    | some j, some l => match j.d with
      | .bool => some ((f.1, .bool) :: l)
      | .int _ => some ((f.1, .int) :: l)
      | .str => some ((f.1, .str) :: l)
      | _ => none
    | _, _ => none

def eqOf (C : Ctx) (t : TypeId) : Option EQ := match C t with
    | none => none
    | some i => match i.d with
      | .bool => some .bool
      | .ptr _ => some .ptr
      | .slice _ => some .slice
      | .map _ _ => some .map
      | .struct fs => if C.eqs t then match eqFs C fs with
          | some l => some (.struct l)
          | none => none
        else none
      | _ => none

/-- Parts of a struct, of a row: where, how many cells. -/
def placed (C : Ctx) (place : Nat → Option (Nat × Nat)) : List (Nat × Operand) → Option (List (Nat × Nat × Od))
  | [] => some []
  | (i, x) :: r => match place i, od C x, placed C place r with
    | some (o, n), some y, some l => some ((o, n, y) :: l)
    | _, _, _ => none

def reps {α : Type} : Nat → List α → List α
  | 0, _ => []
  | k + 1, l => l ++ reps k l

def zeroV (i : TI) : Option IV := if i.d.agg then some (.agg i.zero) else match i.zero with
  | [x] => some x
  | _ => none

/-- A field's place and type. -/
def fieldOf (C : Ctx) (t : TypeId) (f : Nat) : Option (Nat × TI) := match C t with
  | some i => match i.d with
    | .struct fs => match fs[f]? with
      | some (o, u) => match C u with
        | some j => some (o, j)
        | none => none
      | none => none
    | _ => none
  | none => none

/-- A constant? -/
def isC : Operand → Bool
  | .const _ => true
  | _ => false

/-- A number's last bit asked? -/
def isAnd1 : BinOp → Operand → Bool
  | .and, .const (.int .i64 1) => true
  | _, _ => false

def compO (C : Ctx) (o : Op) : Option Co :=
  match o with
  | .move x | .assign x => (od C x).map .mv
  | .pick c a b => match od C c, od C a, od C b with
    | some c, some a, some b => some (.pick c a b)
    | _, _, _ => none
  | .alloc t => match C t with
    | some i => some (.new i.zero t)
    | none => none
  | .box t x => match C t, od C x with
    | some _, some y => some (.box y t)
    | _, _ => none
  | .build t ps => match C t with
    | some i => match i.d with
      | .struct fs => match placed C (fun j => match fs[j]? with | some (o, u) => (match C u with | some f => some (o, f.size) | none => none) | none => none) ps.toList with
        | some l => some (.build i.zero l)
        | none => none
      | .array _ e => match C e with
        | some ie => match placed C (fun j => some (j * ie.size, ie.size)) ps.toList with
          | some l => some (.build i.zero l)
          | none => none
        | none => none
      | _ => none
    | none => none
  | .buildSlice t len ps => match C t with
    | some i => match i.d with
      | .slice e => match C e with
        | some ie => if len * ie.size ≤ 2 ^ 20 ∧ 0 < ie.size then match placed C (fun j => some (j * ie.size, ie.size)) ps.toList with
            | some l => some (.bslice len (reps len ie.zero) l e)
            | none => none
          else none
        | none => none
      | _ => none
    | none => none
  | .load t a => match C t, od C a with
    | some i, some p => some (if i.d.agg then .loadN i.size p else .load1 p)
    | _, _ => none
  | .store t a x => match C t, od C a, od C x with
    | some i, some p, some y => some (.store i.size p y)
    | _, _, _ => none
  | .nilCheck x => (od C x).map .nilck
  | .binOp op t x y _ => match C t, od C x, od C y with
    | some i, some a, some b => match i.d, op with
      | .int _, _ => some (if C.br && isAnd1 op y then .and1 a else .ib op a b)
      | .str, .add | .str, .eql | .str, .neq => some (.sb op a b)
      | .iface, .eql => some (if isC x || isC y then .eq false .ifc a b else .eqi false C.pts C.its a b)
      | .iface, .neq => some (if isC x || isC y then .eq true .ifc a b else .eqi true C.pts C.its a b)
      | _, .eql => (eqOf C t).map fun q => .eq false q a b
      | _, .neq => (eqOf C t).map fun q => .eq true q a b
      | _, _ => none
    | _, _, _ => none
  | .unOp op _ x => match op, od C x with
    | .neg, some a => some (.neg a)
    | .not, some a => some (.not a)
    | _, _ => none
  | .convert src dst x => match C src, C dst, od C x with
    | some i, some j, some a => match i.d, j.d with
      | .int _, .int k => some (.conv k a)
      | .str, .str => some (.mvs a)
      | .str, .slice e => match C e with
        | some ie => match ie.d with
          | .int .u8 => some (.s2b e a)
          | _ => none
        | none => none
      | .slice e, .str => match C e with
        | some ie => match ie.d with
          | .int .u8 => some (.b2s a)
          | _ => none
        | none => none
      | _, _ => none
    | _, _, _ => none
  | .makeInterface t x => match C t, od C x with
    | some i, some a => match i.d with
      | .iface | .other => none
      | _ => some (.mkif t a)
    | _, _ => none
  | .makeFunc (.func f) a b => match ods C a.toList, ods C b.toList with
    | some x, some y => some (.mkfn f x y)
    | _, _ => none
  | .makeMap _ none => some .mkmap
  | .makeSlice t l c => match C t, od C l, od C c with
    | some i, some a, some b => match i.d with
      | .slice e => match C e with
        | some ie => if ie.bytes ≤ 100000 ∧ 0 < ie.size then some (.mkslice ie.size ie.zero e a b) else none
        | none => none
      | _ => none
    | _, _, _ => none
  | .slice t x lo hi none => match C t, od C x, odo C lo, odo C hi with
    | some i, some a, some l, some h => match i.d with
      | .str => some (.slStr a l h)
      | .slice e => match C e with
        | some ie => if 0 < ie.size then some (.sl ie.size a l h) else none
        | none => none
      | .array n e => match C e with
        | some ie => if 0 < ie.size then some (.slArr n ie.size a l h) else none
        | none => none
      | _ => none
    | _, _, _, _ => none
  | .fieldAddr t x f => match fieldOf C t f, od C x with
    | some (o, j), some a => if 0 < j.size then some (.faddr o a) else none
    | _, _ => none
  | .field t x f => match fieldOf C t f, od C x with
    | some (o, j), some a => some (if j.d.agg then .fldN o j.size a else .fld1 o a)
    | _, _ => none
  | .indexAddr t x ix => match C t, od C x, od C ix with
    | some i, some a, some b => match i.d with
      | .array n e => match C e with
        | some ie => some (.idxA n ie.size a b)
        | none => none
      | .slice e => match C e with
        | some ie => some (.idxS ie.size a b)
        | none => none
      | _ => none
    | _, _, _ => none
  | .index t x ix => match C t, od C x, od C ix with
    | some i, some a, some b => match i.d with
      | .str => some (.idxStr a b)
      | .array n e => match C e with
        | some ie => some (if ie.d.agg then .idxVN n ie.size a b else .idxV1 n ie.size a b)
        | none => none
      | _ => none
    | _, _, _ => none
  | .lookup t x k ok => match C t, od C x, od C k with
    | some i, some a, some b => match i.d with
      | .map key e => match C key, C e with
        | some ik, some ie => match ik.d, zeroV ie with
          | .int _, some z => some (.look .int z ok a b)
          | .str, some z => some (.look .str z ok a b)
          | .bool, some z => some (.look .bool z ok a b)
          | _, _ => none
        | _, _ => none
      | _ => none
    | _, _, _ => none
  | .mapUpdate t m k x | .insert t m k x => match C t, od C m, od C k, od C x with
    | some i, some a, some b, some c => match i.d with
      | .map key _ => match C key with
        | some ik => match ik.d with
          | .int _ => some (.mupd .int a b c)
          | .str => some (.mupd .str a b c)
          | .bool => some (.mupd .bool a b c)
          | _ => none
        | none => none
      | _ => none
    | _, _, _, _ => none
  | .range t x => match C t, od C x with
    | some i, some a => match i.d with
      | .str => some (.rng a)
      | _ => none
    | _, _ => none
  | .next it true => (od C it).map .next
  | .typeAssert x _ t ok => match C t, od C x with
    | some i, some a => match i.d, zeroV i with
      | .iface, _ | .other, _ => none
      | _, some z => some (.tass t z ok a)
      | _, none => none
    | _, _ => none
  | .extract t ix => (od C t).map (.extr ix)
  | .call c => match c.callee, ods C c.args.toList with
    | .builtin .len, some [x] => match c.argTypes[0]? with
      | some t => match C t with
        | some i => match i.d with
          | .array n _ => some (.mv (.c (.int .i64 n)))
          | .str => some (.lenS x)
          | .slice _ => some (.lenL x)
          | .map _ _ => some (.lenM x)
          | _ => none
        | none => none
      | none => none
    | .builtin .append, some [x, y] => match c.argTypes[0]?, c.argTypes[1]? with
      | some t, some u => match C t, C u with
        | some i, some j => match i.d, j.d with
          | .slice e, .slice _ | .slice e, .str => match C e with
            | some ie => if 0 < ie.size ∧ 0 < ie.bytes ∧ ie.bytes ≤ 100000 then some (.app ie.size e x y) else none
            | none => none
          | _, _ => none
        | _, _ => none
      | _, _ => none
    | .builtin .copy, some [x, y] => match c.argTypes[0]? with
      | some t => match C t with
        | some i => match i.d with
          | .slice e => match C e with
            | some ie => some (.cpy ie.size x y)
            | none => none
          | _ => none
        | none => none
      | none => none
    | .builtin .min, some l => some (.mm true l)
    | .builtin .max, some l => some (.mm false l)
    | .builtin .unsafeString, some [x, y] => match c.argTypes.toList with
      | [t, _] => match C t with
        | some i => match i.d with
          | .ptr e => match C e with
            | some ie => match ie.d with
              | .int .u8 => some (.ustr e x y)
              | _ => none
            | none => none
          | _ => none
        | none => none
      | _ => none
    | .value f, some l => match f with
      | .func f => match C.ext f with
        | some e => some (.ext e l)
        | none => some (.call f l)
      | f => match od C f with
        | some x => some (.callv x l)
        | none => none
    | _, _ => none
  | _ => none

def gd (ops : List Oper) : Option (Nat × Bool) → Option Gd
  | none => some .no
  | some (j, w) => match ops[j]? with
    | some o => match o.dst with
      | some t => some (.on (t / 8) (t % 8) w)
      | none => none
    | none => none

/-- What is not served becomes an operation that never comes to an end. -/
def compOp (C : Ctx) (ops : List Oper) (o : Oper) : Option Cop := match gd ops o.guard with
  | some g => match compO C o.op with
    | some c => some ⟨g, ds o.dst, c⟩
    | none => some ⟨g, ds o.dst, .bad⟩
  | none => none

def compOps (C : Ctx) (ops : List Oper) : List Oper → Option (List Cop)
  | [] => some []
  | o :: r => match compOp C ops o, compOps C ops r with
    | some a, some b => some (a :: b)
    | _, _ => none

/-! ### Regions whose order is open -/
/-- What an operation waits for, as bits. -/
def waitBits (acc : List Nat) : List Edge → Nat
  | [] => 0
  | e :: l => if Region.binds .any e then Nat.lor (Nat.lor (Nat.pow 2 e.on) (acc.getD e.on 0)) (waitBits acc l) else waitBits acc l
def waitAll : List Oper → List Nat → List Nat
  | [], acc => acc
  | o :: r, acc => waitAll r (acc ++ [waitBits acc o.after.toList])
/-- An operation, by number: what it waits for; the effects among it; the model's; the compact. -/
structure Row where
  no : Nat
  wait : Nat
  eff : Bool
  o : Oper
  c : Cop
def rowsOf : Nat → List Nat → List Oper → List Cop → List Row
  | i, b :: bs, o :: os, c :: cs => ⟨i, b, !(isQuiet c.o || isAlloc c.o), o, c⟩ :: rowsOf (i + 1) bs os cs
  | _, _, _, _ => []
def odTmps : Od → List Tmp
  | .t a b => [8 * a + b]
  | .c _ => []
def oneO : Option Od → List Od
  | some x => [x]
  | none => []
def psO : List (Nat × Nat × Od) → List Od
  | [] => []
  | p :: r => p.2.2 :: psO r
/-- The operands of an operation. -/
def Co.ods : Co → List Od
  | .bad | .new .. | .mkmap => []
  | .s2b _ x | .mv x | .mvs x | .box x _ | .load1 x | .loadN _ x | .nilck x | .neg x | .not x | .conv _ x | .b2s x | .mkif _ x | .faddr _ x | .fld1 _ x | .fldN _ _ x | .rng x | .next x | .tass _ _ _ x | .extr _ x | .lenS x | .lenL x | .lenM x | .and1 x => [x]
  | .ustr _ x y | .store _ x y | .ib _ x y | .sb _ x y | .eq _ _ x y | .eqi _ _ _ x y | .mkslice _ _ _ x y | .idxA _ _ x y | .idxS _ x y | .idxStr x y | .idxV1 _ _ x y | .idxVN _ _ x y | .look _ _ _ x y | .app _ _ x y | .cpy _ x y | .del _ x y => [x, y]
  | .pick x y z | .mupd _ x y z => [x, y, z]
  | .build _ ps | .bslice _ _ ps _ => psO ps
  | .mkfn _ a b => a ++ b
  | .slStr x a b | .sl _ x a b | .slArr _ _ x a b => x :: (oneO a ++ oneO b)
  | .sl3 _ x a b c => x :: b :: c :: oneO a
  | .ext _ l | .mm _ l | .call _ l => l
  | .callv f l => f :: l
def gdTmps : Gd → List Tmp
  | .no => []
  | .on a b _ => [8 * a + b]
/-- The temporaries that an operation looks at, there and here. -/
def Row.looks (r : Row) : List Tmp := (r.o.op.operands.toList.filterMap fun | .tmp t => some t | _ => none) ++ (r.c.o.ods.flatMap odTmps ++ gdTmps r.c.g)
/-- Who writes a temporary is waited for by who reads it; and nobody else writes it; what is new has a place. -/
def tmpsOk (rows : List Row) : Bool := rows.all fun r => (!isAlloc r.c.o || r.o.dst.isSome) && rows.all fun q => match q.o.dst with
  | none => true
  | some t => (r.no == q.no || r.o.dst != some t) && r.looks.all fun u => u != t || (r.no != q.no && r.wait.testBit q.no)
/-- An operation waits for earlier ones alone. -/
def backOk (rows : List Row) : Bool := rows.all fun r => r.o.after.toList.all fun e => !Region.binds .any e || Nat.blt e.on r.no
def chainOk : List Row → Bool
  | a :: b :: r => b.wait.testBit a.no && chainOk (b :: r)
  | _ => true
def countEff (effs : List Row) (r : Row) : Nat := (effs.filter fun e => r.wait.testBit e.no).length
/-- The phases from one number on; 'prev': the effect ahead of it. -/
def phases (quiet : List Row) (effs : List Row) : Nat → Option Row → List Row → List Ph
  | n, prev, es => 
    let q := (quiet.filter fun r => countEff effs r == n).map (·.c)
    let chk := (quiet.filter fun r => decide (countEff effs r ≤ n) && (match prev with | none => true | some e => !(e.wait.testBit r.no))).map (·.c)
    match es with
    | [] => [⟨q, chk, []⟩]
    | e :: r => ⟨q, chk, [e.c]⟩ :: phases quiet effs (n + 1) (some e) r
def compDraw (C : Ctx) (ops : List Oper) : Option (List Ph) := match compOps C ops ops with
  | none => none
  | some cs =>
    let rows := rowsOf 0 (waitAll ops []) ops cs
    let effs := rows.filter (·.eff)
    let quiet := rows.filter (!·.eff)
    if tmpsOk rows && chainOk effs && backOk rows then some (phases quiet effs 0 none effs) else none

def compC (C : Ctx) : Code → Option Cd
  | .skip | .label _ => some .skip
  | .ret => some .ret
  | .exit id => some (.exit id)
  | .region _ ops false => (compOps C ops.toList ops.toList).map .reg
  | .region _ ops true => match compDraw C ops.toList with
    | some l => some (.draw l)
    | none => some .bad
  | .seq a b => match compC C a, compC C b with
    | some x, some y => some (.seq x y)
    | _, _ => none
  | .cond c a b => match od C c, compC C a, compC C b with
    | some c, some x, some y => some (.cond c x y)
    | _, _, _ => none
  | .block id c => (compC C c).map (.block id)
  | .loop c => (compC C c).map .loop
  | _ => some .bad

def compR (C : Ctx) : ResultVar → Option Rs
  | .tmp t => some (.tmp (t / 8) (t % 8))
  | .cell a t => match C t with
    | some i => some (if i.d.agg then .cellN (a / 8) (a % 8) i.size else .cell1 (a / 8) (a % 8))
    | none => none

def compRs (C : Ctx) : List ResultVar → Option (List Rs)
  | [] => some []
  | r :: l => match compR C r, compRs C l with
    | some a, some b => some (a :: b)
    | _, _ => none

def compF (C : Ctx) (fn : Func) : Option Fn := match fn.body with
  | some b => match compC C b, compRs C fn.results.toList with
    | some c, some r => some ⟨c, fn.ntmps / 8, fn.ntmps % 8, r⟩
    | _, _ => none
  | none => none
end Go.Ev
