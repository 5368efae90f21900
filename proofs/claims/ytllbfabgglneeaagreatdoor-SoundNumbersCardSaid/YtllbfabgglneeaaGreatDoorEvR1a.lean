/- DERIVED. What the first round's program has for types, for functions without a body: as the ideal machine's tables have it. -/
import Derived.Test.YtllbfabgglneeaaGreatDoorEvTop
import Derived.Test.YtllbfabgglneeaaGreatDoorEvCheck
import Derived.KernelRfl
import Derived.Test.YtllbfabgglneeaaGreatDoorEvShelf1
import Derived.Shelf.Strings.Search1
import Derived.Shelf.Strings.Search2
import Derived.Shelf.Strings.Search3
import Derived.Shelf.LaysM
import Derived.Shelf.Strings.Shaped
import Derived.Test.YtllbfabgglneeaaGreatDoorChecked
set_option linter.unusedVariables false
namespace Go.Ev.R1
open Go Go.Ev Go.Proofs Go.Shelf
set_option maxRecDepth 1000000
def tyT : List (List (Option TI)) := [
  [none, none, some ⟨.int .i64, 1, 8, [.int .i64 0]⟩, some ⟨.int .i64, 1, 8, [.int .i64 0]⟩, some ⟨.bool, 1, 1, [.bool false]⟩, some ⟨.int .u8, 1, 1, [.int .u8 0]⟩, none, none, none, some ⟨.str, 1, 16, [.str 0 0]⟩, none, none, none, none, none, none],
  [none, none, none, none, none, some ⟨.int .i32, 1, 4, [.int .i32 0]⟩, none, some ⟨.struct [(0, 9), (1, 9)], 2, 32, [.str 0 0, .str 0 0]⟩, none, some ⟨.slice 45, 1, 24, [.nilsl]⟩, none, some ⟨.struct [(0, 9), (1, 9), (2, 25)], 3, 56, [.str 0 0, .str 0 0, .nilsl]⟩, some ⟨.int .i64, 1, 8, [.int .i64 0]⟩, none, none, none],
  [none, none, some ⟨.func, 1, 8, [.nilfn]⟩, none, some ⟨.array 16 9, 16, 256, [.str 0 0, .str 0 0, .str 0 0, .str 0 0, .str 0 0, .str 0 0, .str 0 0, .str 0 0, .str 0 0, .str 0 0, .str 0 0, .str 0 0, .str 0 0, .str 0 0, .str 0 0, .str 0 0]⟩, some ⟨.array 16 28, 16, 128, [.int .i64 0, .int .i64 0, .int .i64 0, .int .i64 0, .int .i64 0, .int .i64 0, .int .i64 0, .int .i64 0, .int .i64 0, .int .i64 0, .int .i64 0, .int .i64 0, .int .i64 0, .int .i64 0, .int .i64 0, .int .i64 0]⟩, none, some ⟨.slice 51, 1, 24, [.nilsl]⟩, none, some ⟨.struct [(0, 9), (1, 39), (2, 23), (4, 3)], 5, 80, [.str 0 0, .nilsl, .str 0 0, .str 0 0, .int .i64 0]⟩, some ⟨.slice 41, 1, 24, [.nilsl]⟩, some ⟨.slice 9, 1, 24, [.nilsl]⟩, none, some ⟨.struct [(0, 3), (1, 9), (2, 43), (3, 42), (4, 39)], 5, 96, [.int .i64 0, .str 0 0, .nilsl, .nilsl, .nilsl]⟩, none, some ⟨.slice 49, 1, 24, [.nilsl]⟩],
  [none, some ⟨.struct [(0, 3), (1, 9), (2, 43), (3, 47)], 4, 72, [.int .i64 0, .str 0 0, .nilsl, .nilsl]⟩, none, some ⟨.struct [(0, 9), (1, 23), (3, 49)], 7, 120, [.str 0 0, .str 0 0, .str 0 0, .int .i64 0, .str 0 0, .nilsl, .nilsl]⟩, none, none, none, none, none, none, none, none, none, some ⟨.slice 73, 1, 24, [.nilsl]⟩, none, none],
  [none, none, some ⟨.struct [(0, 61), (1, 3), (2, 28), (3, 3), (4, 4)], 5, 56, [.nilsl, .int .i64 0, .int .i64 0, .int .i64 0, .bool false]⟩, none, none, none, none, none, none, some ⟨.struct [(0, 3), (1, 9), (2, 3)], 3, 32, [.int .i64 0, .str 0 0, .int .i64 0]⟩, some ⟨.func, 1, 8, [.nilfn]⟩, none, none, none, none, none],
  [none, some ⟨.slice 84, 1, 24, [.nilsl]⟩, none, none, some ⟨.struct [(0, 74), (1, 28)], 2, 16, [.nilfn, .int .i64 0]⟩, none, none, none, none, none, none, none, none, none, none, none],
  [none, none, none, none, none, none, none, none, none, none, none, none, none, none, none, none],
  [none, none, none, none, none, none, none, none, none, none, none, none, none, none, none, none],
  [none, none, none, none, none, none, none, none, none, none, none, some ⟨.slice 43, 1, 24, [.nilsl]⟩, none, none, some ⟨.func, 1, 8, [.nilfn]⟩, none],
  [some ⟨.map 3 3, 1, 8, [.nilmap]⟩, some ⟨.map 9 4, 1, 8, [.nilmap]⟩, some ⟨.func, 1, 8, [.nilfn]⟩, none, none, none, none, none, none, none, none, none, none, none, none, some ⟨.array 256 4, 256, 256, [.bool false, .bool false, .bool false, .bool false, .bool false, .bool false, .bool false, .bool false, .bool false, .bool false, .bool false, .bool false, .bool false, .bool false, .bool false, .bool false, .bool false, .bool false, .bool false, .bool false, .bool false, .bool false, .bool false, .bool false, .bool false, .bool false, .bool false, .bool false, .bool false, .bool false, .bool false, .bool false, .bool false, .bool false, .bool false, .bool false, .bool false, .bool false, .bool false, .bool false, .bool false, .bool false, .bool false, .bool false, .bool false, .bool false, .bool false, .bool false, .bool false, .bool false, .bool false, .bool false, .bool false, .bool false, .bool false, .bool false, .bool false, .bool false, .bool false, .bool false, .bool false, .bool false, .bool false, .bool false, .bool false, .bool false, .bool false, .bool false, .bool false, .bool false, .bool false, .bool false, .bool false, .bool false, .bool false, .bool false, .bool false, .bool false, .bool false, .bool false, .bool false, .bool false, .bool false, .bool false, .bool false, .bool false, .bool false, .bool false, .bool false, .bool false, .bool false, .bool false, .bool false, .bool false, .bool false, .bool false, .bool false, .bool false, .bool false, .bool false, .bool false, .bool false, .bool false, .bool false, .bool false, .bool false, .bool false, .bool false, .bool false, .bool false, .bool false, .bool false, .bool false, .bool false, .bool false, .bool false, .bool false, .bool false, .bool false, .bool false, .bool false, .bool false, .bool false, .bool false, .bool false, .bool false, .bool false, .bool false, .bool false, .bool false, .bool false, .bool false, .bool false, .bool false, .bool false, .bool false, .bool false, .bool false, .bool false, .bool false, .bool false, .bool false, .bool false, .bool false, .bool false, .bool false, .bool false, .bool false, .bool false, .bool false, .bool false, .bool false, .bool false, .bool false, .bool false, .bool false, .bool false, .bool false, .bool false, .bool false, .bool false, .bool false, .bool false, .bool false, .bool false, .bool false, .bool false, .bool false, .bool false, .bool false, .bool false, .bool false, .bool false, .bool false, .bool false, .bool false, .bool false, .bool false, .bool false, .bool false, .bool false, .bool false, .bool false, .bool false, .bool false, .bool false, .bool false, .bool false, .bool false, .bool false, .bool false, .bool false, .bool false, .bool false, .bool false, .bool false, .bool false, .bool false, .bool false, .bool false, .bool false, .bool false, .bool false, .bool false, .bool false, .bool false, .bool false, .bool false, .bool false, .bool false, .bool false, .bool false, .bool false, .bool false, .bool false, .bool false, .bool false, .bool false, .bool false, .bool false, .bool false, .bool false, .bool false, .bool false, .bool false, .bool false, .bool false, .bool false, .bool false, .bool false, .bool false, .bool false, .bool false, .bool false, .bool false, .bool false, .bool false, .bool false, .bool false, .bool false, .bool false, .bool false, .bool false, .bool false, .bool false, .bool false, .bool false, .bool false, .bool false, .bool false, .bool false, .bool false, .bool false, .bool false, .bool false, .bool false]⟩],
  [none, none, none, none, none, none, none, none, none, none, some ⟨.iface, 1, 16, [.nili]⟩, none, none, none, none, none],
  [none, none, none, some ⟨.array 5 3, 5, 40, [.int .i64 0, .int .i64 0, .int .i64 0, .int .i64 0, .int .i64 0]⟩, none, none, none, none, none, none, none, none, none, some ⟨.int .u64, 1, 8, [.int .u64 0]⟩, none, none],
  [some ⟨.int .i64, 1, 8, [.int .i64 0]⟩, some ⟨.int .u64, 1, 8, [.int .u64 0]⟩, none, none, some ⟨.ptr 210, 1, 8, [.nilp]⟩, none, none, some ⟨.slice 5, 1, 24, [.nilsl]⟩, some ⟨.array 256 5, 256, 256, [.int .u8 0, .int .u8 0, .int .u8 0, .int .u8 0, .int .u8 0, .int .u8 0, .int .u8 0, .int .u8 0, .int .u8 0, .int .u8 0, .int .u8 0, .int .u8 0, .int .u8 0, .int .u8 0, .int .u8 0, .int .u8 0, .int .u8 0, .int .u8 0, .int .u8 0, .int .u8 0, .int .u8 0, .int .u8 0, .int .u8 0, .int .u8 0, .int .u8 0, .int .u8 0, .int .u8 0, .int .u8 0, .int .u8 0, .int .u8 0, .int .u8 0, .int .u8 0, .int .u8 0, .int .u8 0, .int .u8 0, .int .u8 0, .int .u8 0, .int .u8 0, .int .u8 0, .int .u8 0, .int .u8 0, .int .u8 0, .int .u8 0, .int .u8 0, .int .u8 0, .int .u8 0, .int .u8 0, .int .u8 0, .int .u8 0, .int .u8 0, .int .u8 0, .int .u8 0, .int .u8 0, .int .u8 0, .int .u8 0, .int .u8 0, .int .u8 0, .int .u8 0, .int .u8 0, .int .u8 0, .int .u8 0, .int .u8 0, .int .u8 0, .int .u8 0, .int .u8 0, .int .u8 0, .int .u8 0, .int .u8 0, .int .u8 0, .int .u8 0, .int .u8 0, .int .u8 0, .int .u8 0, .int .u8 0, .int .u8 0, .int .u8 0, .int .u8 0, .int .u8 0, .int .u8 0, .int .u8 0, .int .u8 0, .int .u8 0, .int .u8 0, .int .u8 0, .int .u8 0, .int .u8 0, .int .u8 0, .int .u8 0, .int .u8 0, .int .u8 0, .int .u8 0, .int .u8 0, .int .u8 0, .int .u8 0, .int .u8 0, .int .u8 0, .int .u8 0, .int .u8 0, .int .u8 0, .int .u8 0, .int .u8 0, .int .u8 0, .int .u8 0, .int .u8 0, .int .u8 0, .int .u8 0, .int .u8 0, .int .u8 0, .int .u8 0, .int .u8 0, .int .u8 0, .int .u8 0, .int .u8 0, .int .u8 0, .int .u8 0, .int .u8 0, .int .u8 0, .int .u8 0, .int .u8 0, .int .u8 0, .int .u8 0, .int .u8 0, .int .u8 0, .int .u8 0, .int .u8 0, .int .u8 0, .int .u8 0, .int .u8 0, .int .u8 0, .int .u8 0, .int .u8 0, .int .u8 0, .int .u8 0, .int .u8 0, .int .u8 0, .int .u8 0, .int .u8 0, .int .u8 0, .int .u8 0, .int .u8 0, .int .u8 0, .int .u8 0, .int .u8 0, .int .u8 0, .int .u8 0, .int .u8 0, .int .u8 0, .int .u8 0, .int .u8 0, .int .u8 0, .int .u8 0, .int .u8 0, .int .u8 0, .int .u8 0, .int .u8 0, .int .u8 0, .int .u8 0, .int .u8 0, .int .u8 0, .int .u8 0, .int .u8 0, .int .u8 0, .int .u8 0, .int .u8 0, .int .u8 0, .int .u8 0, .int .u8 0, .int .u8 0, .int .u8 0, .int .u8 0, .int .u8 0, .int .u8 0, .int .u8 0, .int .u8 0, .int .u8 0, .int .u8 0, .int .u8 0, .int .u8 0, .int .u8 0, .int .u8 0, .int .u8 0, .int .u8 0, .int .u8 0, .int .u8 0, .int .u8 0, .int .u8 0, .int .u8 0, .int .u8 0, .int .u8 0, .int .u8 0, .int .u8 0, .int .u8 0, .int .u8 0, .int .u8 0, .int .u8 0, .int .u8 0, .int .u8 0, .int .u8 0, .int .u8 0, .int .u8 0, .int .u8 0, .int .u8 0, .int .u8 0, .int .u8 0, .int .u8 0, .int .u8 0, .int .u8 0, .int .u8 0, .int .u8 0, .int .u8 0, .int .u8 0, .int .u8 0, .int .u8 0, .int .u8 0, .int .u8 0, .int .u8 0, .int .u8 0, .int .u8 0, .int .u8 0, .int .u8 0, .int .u8 0, .int .u8 0, .int .u8 0, .int .u8 0, .int .u8 0, .int .u8 0, .int .u8 0, .int .u8 0, .int .u8 0, .int .u8 0, .int .u8 0, .int .u8 0, .int .u8 0, .int .u8 0, .int .u8 0, .int .u8 0, .int .u8 0, .int .u8 0, .int .u8 0, .int .u8 0, .int .u8 0, .int .u8 0, .int .u8 0, .int .u8 0, .int .u8 0, .int .u8 0, .int .u8 0, .int .u8 0, .int .u8 0, .int .u8 0, .int .u8 0, .int .u8 0, .int .u8 0, .int .u8 0, .int .u8 0, .int .u8 0]⟩, none, some ⟨.struct [(0, 5), (1, 5)], 2, 2, [.int .u8 0, .int .u8 0]⟩, some ⟨.array 16 202, 32, 32, [.int .u8 0, .int .u8 0, .int .u8 0, .int .u8 0, .int .u8 0, .int .u8 0, .int .u8 0, .int .u8 0, .int .u8 0, .int .u8 0, .int .u8 0, .int .u8 0, .int .u8 0, .int .u8 0, .int .u8 0, .int .u8 0, .int .u8 0, .int .u8 0, .int .u8 0, .int .u8 0, .int .u8 0, .int .u8 0, .int .u8 0, .int .u8 0, .int .u8 0, .int .u8 0, .int .u8 0, .int .u8 0, .int .u8 0, .int .u8 0, .int .u8 0, .int .u8 0]⟩, none, some ⟨.int .u32, 1, 4, [.int .u32 0]⟩, none, none],
  [none, none, some ⟨.struct [(0, 9), (1, 9), (2, 170)], 3, 48, [.str 0 0, .str 0 0, .nili]⟩, none, some ⟨.ptr 5, 1, 8, [.nilp]⟩, some ⟨.ptr 215, 1, 8, [.nilp]⟩, none, some ⟨.struct [(0, 9)], 1, 16, [.str 0 0]⟩, none, some ⟨.array 24 5, 24, 24, [.int .u8 0, .int .u8 0, .int .u8 0, .int .u8 0, .int .u8 0, .int .u8 0, .int .u8 0, .int .u8 0, .int .u8 0, .int .u8 0, .int .u8 0, .int .u8 0, .int .u8 0, .int .u8 0, .int .u8 0, .int .u8 0, .int .u8 0, .int .u8 0, .int .u8 0, .int .u8 0, .int .u8 0, .int .u8 0, .int .u8 0, .int .u8 0]⟩, none, none, none, none, none, some ⟨.array 20 193, 20, 160, [.int .u64 0, .int .u64 0, .int .u64 0, .int .u64 0, .int .u64 0, .int .u64 0, .int .u64 0, .int .u64 0, .int .u64 0, .int .u64 0, .int .u64 0, .int .u64 0, .int .u64 0, .int .u64 0, .int .u64 0, .int .u64 0, .int .u64 0, .int .u64 0, .int .u64 0, .int .u64 0]⟩],
  [some ⟨.array 65 5, 65, 65, [.int .u8 0, .int .u8 0, .int .u8 0, .int .u8 0, .int .u8 0, .int .u8 0, .int .u8 0, .int .u8 0, .int .u8 0, .int .u8 0, .int .u8 0, .int .u8 0, .int .u8 0, .int .u8 0, .int .u8 0, .int .u8 0, .int .u8 0, .int .u8 0, .int .u8 0, .int .u8 0, .int .u8 0, .int .u8 0, .int .u8 0, .int .u8 0, .int .u8 0, .int .u8 0, .int .u8 0, .int .u8 0, .int .u8 0, .int .u8 0, .int .u8 0, .int .u8 0, .int .u8 0, .int .u8 0, .int .u8 0, .int .u8 0, .int .u8 0, .int .u8 0, .int .u8 0, .int .u8 0, .int .u8 0, .int .u8 0, .int .u8 0, .int .u8 0, .int .u8 0, .int .u8 0, .int .u8 0, .int .u8 0, .int .u8 0, .int .u8 0, .int .u8 0, .int .u8 0, .int .u8 0, .int .u8 0, .int .u8 0, .int .u8 0, .int .u8 0, .int .u8 0, .int .u8 0, .int .u8 0, .int .u8 0, .int .u8 0, .int .u8 0, .int .u8 0, .int .u8 0]⟩, none, none, some ⟨.array 32 5, 32, 32, [.int .u8 0, .int .u8 0, .int .u8 0, .int .u8 0, .int .u8 0, .int .u8 0, .int .u8 0, .int .u8 0, .int .u8 0, .int .u8 0, .int .u8 0, .int .u8 0, .int .u8 0, .int .u8 0, .int .u8 0, .int .u8 0, .int .u8 0, .int .u8 0, .int .u8 0, .int .u8 0, .int .u8 0, .int .u8 0, .int .u8 0, .int .u8 0, .int .u8 0, .int .u8 0, .int .u8 0, .int .u8 0, .int .u8 0, .int .u8 0, .int .u8 0, .int .u8 0]⟩, some ⟨.array 64 5, 64, 64, [.int .u8 0, .int .u8 0, .int .u8 0, .int .u8 0, .int .u8 0, .int .u8 0, .int .u8 0, .int .u8 0, .int .u8 0, .int .u8 0, .int .u8 0, .int .u8 0, .int .u8 0, .int .u8 0, .int .u8 0, .int .u8 0, .int .u8 0, .int .u8 0, .int .u8 0, .int .u8 0, .int .u8 0, .int .u8 0, .int .u8 0, .int .u8 0, .int .u8 0, .int .u8 0, .int .u8 0, .int .u8 0, .int .u8 0, .int .u8 0, .int .u8 0, .int .u8 0, .int .u8 0, .int .u8 0, .int .u8 0, .int .u8 0, .int .u8 0, .int .u8 0, .int .u8 0, .int .u8 0, .int .u8 0, .int .u8 0, .int .u8 0, .int .u8 0, .int .u8 0, .int .u8 0, .int .u8 0, .int .u8 0, .int .u8 0, .int .u8 0, .int .u8 0, .int .u8 0, .int .u8 0, .int .u8 0, .int .u8 0, .int .u8 0, .int .u8 0, .int .u8 0, .int .u8 0, .int .u8 0, .int .u8 0, .int .u8 0, .int .u8 0, .int .u8 0]⟩, none, none, none, none, none, none, none, none, none, none, none],
  [none, none]]
def tyF (t : TypeId) : Option TI := ((tyT[t / 16]?).bind (·[t % 16]?)).join
def extF (f : FuncId) : Option Ext := if f == 186 then some .count else if f == 244 then some .indexByte else if f == 211 then some (.index (P2.ofNat 0)) else none
def CX : Ctx := ⟨tyF, extF, fun g => Nat.blt g 8, fun t => Nat.beq t 23, [213], [192], false⟩
def CB : Ctx := ⟨tyF, extF, fun g => Nat.blt g 8, fun t => Nat.beq t 23, [213], [192], true⟩
def tysOk (P : Program) : Nat → List (List (Option TI)) → Bool
  | _, [] => true
  | b, l :: r => (l.zipIdx.all fun p => match p.1 with | none => true | some i => tiCheck P (b + p.2) i) && tysOk P (b + 16) r
theorem tysOk_get {P : Program} : ∀ (l : List (List (Option TI))) (b : Nat), tysOk P b l = true → ∀ (j k : Nat) (r : List (Option TI)) (i : TI), k < 16 → l[j]? = some r → r[k]? = some (some i) → TIok P (b + 16 * j + k) i
  | [], b, h, j, k, r, i, _, h1, _ => by simp at h1
  | l :: q, b, h, j, k, r, i, hk, h1, h2 => by
    simp only [tysOk, Bool.and_eq_true, List.all_eq_true] at h
    cases j with
    | zero =>
      simp at h1; subst h1
      have h3 : (some i, k) ∈ l.zipIdx := List.mem_zipIdx_iff_getElem?.2 (by simpa using h2)
      have := h.1 _ h3
      exact tiCheck_ok (by simpa using this)
    | succ j =>
      have := tysOk_get q (b + 16) h.2 j k r i hk (by simpa using h1) h2
      have e : (b + 16 * (j + 1) + k : Nat) = b + 16 + 16 * j + k := by omega
      rw [e]; exact this
theorem tys : tysOk Tryz.prog 0 tyT = true := by kernel_rfl
theorem ty_ok (t : TypeId) (i : TI) (h : tyF t = some i) : TIok Tryz.prog t i := by
  simp only [tyF, Option.join_eq_some_iff, Option.bind_eq_some_iff] at h
  obtain ⟨r, h1, h2⟩ := h
  have := tysOk_get _ _ tys _ _ _ _ (Nat.mod_lt t (by decide)) h1 h2
  have e : (0 + 16 * (t / 16) + t % 16 : Nat) = t := by omega
  rw [e] at this; exact this
theorem mixed : Tryz.prog.follows .mixedOrders = true := by kernel_rfl
theorem eqs_ok (t : TypeId) (h : Nat.beq t 23 = true) : Tryz.prog.stoodInHeld t = false ∧ Tryz.prog.eqGuardType Tryz.prog.depth t = false ∧ ∀ f ∈ (Tryz.prog.fieldsOf t).toList, f.name ≠ "_" := by
  have := Nat.eq_of_beq_eq_true h; subst this
  refine ⟨by kernel_rfl, by kernel_rfl, fun f hf => ?_⟩
  have hall : ((Tryz.prog.fieldsOf 23).toList.all fun f => f.name != "_") = true := by kernel_rfl
  have := List.all_eq_true.1 hall f hf
  simpa using this
theorem pts_ok (t : TypeId) (h : t ∈ [213]) : ∃ te i j, Tryz.prog.underlying t = some (.pointer te) ∧ Tryz.prog.info? t = some i ∧ i.comparable = true ∧ Tryz.prog.info? te = some j ∧ j.size ≠ 0 := by
  obtain rfl := List.mem_singleton.1 h
  have h1 : (match Tryz.prog.underlying 213, Tryz.prog.info? 213 with
    | some (.pointer te), some i => (match Tryz.prog.info? te with | some j => i.comparable && !(Nat.beq j.size 0) | none => false)
    | _, _ => false) = true := by kernel_rfl
  split at h1
  · rename_i te i e1 e2
    split at h1
    · rename_i j e3
      simp only [Bool.and_eq_true, Bool.not_eq_true'] at h1
      exact ⟨te, i, j, e1, e2, h1.1, e3, fun e => by rw [e] at h1; simp at h1⟩
    · cases h1
  · cases h1
theorem its_ok (t : TypeId) (h : t ∈ [192]) : ∃ k i, Tryz.prog.underlying t = some (.int k) ∧ Tryz.prog.info? t = some i ∧ i.comparable = true := by
  obtain rfl := List.mem_singleton.1 h
  have h1 : (match Tryz.prog.underlying 192, Tryz.prog.info? 192 with
    | some (.int _), some i => i.comparable
    | _, _ => false) = true := by kernel_rfl
  split at h1
  · rename_i k i e1 e2
    exact ⟨k, i, e1, e2, h1⟩
  · cases h1
theorem ext_ok {C : Ctx} (hg : C.glob 0 = true) (f : FuncId) (e : Ext) (h : extF f = some e) : ExtOk Tryz.prog C f e := by
  unfold extF at h
  split at h
  · rename_i c; have c' : f = 186 := by simpa using c
    subst c'; cases h
    exact ⟨_, Tryz.func186, by kernel_rfl, by kernel_rfl, by kernel_rfl, by kernel_rfl⟩
  · split at h
    · rename_i c; have c' : f = 244 := by simpa using c
      subst c'; cases h
      exact ⟨_, Tryz.func244, by kernel_rfl, by kernel_rfl, by kernel_rfl, by kernel_rfl⟩
    · split at h
      · rename_i c; have c' : f = 211 := by simpa using c
        subst c'; cases h
        exact ⟨0, _, rfl, hg, Tryz.func211, by kernel_rfl, by kernel_rfl, fun s sub m w hs hm => Any.stringslite_Index Tryz.lays219 s sub m w hs hm⟩
      · cases h
theorem cx_ok : CtxOk Tryz.prog CX := ⟨ty_ok, eqs_ok, pts_ok, its_ok, ext_ok rfl⟩
theorem cb_ok : CtxOk Tryz.prog CB := ⟨ty_ok, eqs_ok, pts_ok, its_ok, ext_ok rfl⟩
end Go.Ev.R1
