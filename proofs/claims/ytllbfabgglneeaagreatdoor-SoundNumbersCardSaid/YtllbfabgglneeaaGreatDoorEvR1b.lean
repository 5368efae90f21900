/- DERIVED. Each function of the first round's table, and its compact code. -/
import Derived.Test.YtllbfabgglneeaaGreatDoorEvR1a
import Derived.Test.YtllbfabgglneeaaGreatDoorEvC1
set_option linter.unusedVariables false
namespace Go.Ev
def RowOk (P : Program) (C : Ctx) (b : Nat) : List (Option Ev.Fn) → Prop
  | [] => True
  | none :: r => RowOk P C (b + 1) r
  | some c :: r => FnOk P C b c ∧ RowOk P C (b + 1) r
def TabOk (P : Program) (C : Ctx) (b : Nat) : List (List (Option Ev.Fn)) → Prop
  | [] => True
  | l :: r => RowOk P C b l ∧ TabOk P C (b + 16) r
theorem RowOk.get {P : Program} {C : Ctx} : ∀ {l : List (Option Ev.Fn)} {b : Nat}, RowOk P C b l → ∀ (j : Nat) (c : Ev.Fn), l[j]? = some (some c) → FnOk P C (b + j) c
  | [], b, h, j, c, e => by simp at e
  | none :: r, b, h, j, c, e => by
    cases j with
    | zero => simp at e
    | succ j =>
      have := RowOk.get (l := r) (b := b + 1) h j c (by simpa using e)
      have e2 : (b + (j + 1) : Nat) = b + 1 + j := by omega
      rw [e2]; exact this
  | some x :: r, b, h, j, c, e => by
    cases j with
    | zero => simp at e; subst e; exact h.1
    | succ j =>
      have := RowOk.get (l := r) (b := b + 1) h.2 j c (by simpa using e)
      have e2 : (b + (j + 1) : Nat) = b + 1 + j := by omega
      rw [e2]; exact this
theorem TabOk.get {P : Program} {C : Ctx} : ∀ {l : List (List (Option Ev.Fn))} {b : Nat}, TabOk P C b l → ∀ (j k : Nat) (r : List (Option Ev.Fn)) (c : Ev.Fn), l[j]? = some r → r[k]? = some (some c) → FnOk P C (b + 16 * j + k) c
  | [], b, h, j, k, r, c, e, _ => by simp at e
  | x :: q, b, h, j, k, r, c, e, e2 => by
    cases j with
    | zero => simp at e; subst e; exact h.1.get k c e2
    | succ j =>
      have := TabOk.get (l := q) (b := b + 16) h.2 j k r c (by simpa using e) e2
      have e3 : (b + 16 * (j + 1) + k : Nat) = b + 16 + 16 * j + k := by omega
      rw [e3]; exact this
end Go.Ev
namespace Go.Ev.R1
open Go Go.Ev Go.Proofs
set_option maxRecDepth 1000000
theorem ok8 : FnOk Tryz.prog CX 8 c8 := ⟨⟨_, Tryz.func8, by kernel_rfl, by kernel_rfl, by kernel_rfl⟩⟩
theorem ok9 : FnOk Tryz.prog CX 9 c9 := ⟨⟨_, Tryz.func9, by kernel_rfl, by kernel_rfl, by kernel_rfl⟩⟩
theorem ok12 : FnOk Tryz.prog CX 12 c12 := ⟨⟨_, Tryz.func12, by kernel_rfl, by kernel_rfl, by kernel_rfl⟩⟩
theorem ok13 : FnOk Tryz.prog CX 13 c13 := ⟨⟨_, Tryz.func13, by kernel_rfl, by kernel_rfl, by kernel_rfl⟩⟩
theorem ok14 : FnOk Tryz.prog CX 14 c14 := ⟨⟨_, Tryz.func14, by kernel_rfl, by kernel_rfl, by kernel_rfl⟩⟩
theorem ok15 : FnOk Tryz.prog CX 15 c15 := ⟨⟨_, Tryz.func15, by kernel_rfl, by kernel_rfl, by kernel_rfl⟩⟩
theorem ok16 : FnOk Tryz.prog CX 16 c16 := ⟨⟨_, Tryz.func16, by kernel_rfl, by kernel_rfl, by kernel_rfl⟩⟩
theorem ok17 : FnOk Tryz.prog CX 17 c17 := ⟨⟨_, Tryz.func17, by kernel_rfl, by kernel_rfl, by kernel_rfl⟩⟩
theorem ok18 : FnOk Tryz.prog CX 18 c18 := ⟨⟨_, Tryz.func18, by kernel_rfl, by kernel_rfl, by kernel_rfl⟩⟩
theorem ok19 : FnOk Tryz.prog CX 19 c19 := ⟨⟨_, Tryz.func19, by kernel_rfl, by kernel_rfl, by kernel_rfl⟩⟩
theorem ok20 : FnOk Tryz.prog CX 20 c20 := ⟨⟨_, Tryz.func20, by kernel_rfl, by kernel_rfl, by kernel_rfl⟩⟩
theorem ok21 : FnOk Tryz.prog CX 21 c21 := ⟨⟨_, Tryz.func21, by kernel_rfl, by kernel_rfl, by kernel_rfl⟩⟩
theorem ok22 : FnOk Tryz.prog CX 22 c22 := ⟨⟨_, Tryz.func22, by kernel_rfl, by kernel_rfl, by kernel_rfl⟩⟩
theorem ok23 : FnOk Tryz.prog CX 23 c23 := ⟨⟨_, Tryz.func23, by kernel_rfl, by kernel_rfl, by kernel_rfl⟩⟩
theorem ok24 : FnOk Tryz.prog CX 24 c24 := ⟨⟨_, Tryz.func24, by kernel_rfl, by kernel_rfl, by kernel_rfl⟩⟩
theorem ok25 : FnOk Tryz.prog CX 25 c25 := ⟨⟨_, Tryz.func25, by kernel_rfl, by kernel_rfl, by kernel_rfl⟩⟩
theorem ok26 : FnOk Tryz.prog CX 26 c26 := ⟨⟨_, Tryz.func26, by kernel_rfl, by kernel_rfl, by kernel_rfl⟩⟩
theorem ok27 : FnOk Tryz.prog CX 27 c27 := ⟨⟨_, Tryz.func27, by kernel_rfl, by kernel_rfl, by kernel_rfl⟩⟩
theorem ok39 : FnOk Tryz.prog CX 39 c39 := ⟨⟨_, Tryz.func39, by kernel_rfl, by kernel_rfl, by kernel_rfl⟩⟩
theorem ok46 : FnOk Tryz.prog CX 46 c46 := ⟨⟨_, Tryz.func46, by kernel_rfl, by kernel_rfl, by kernel_rfl⟩⟩
theorem ok48 : FnOk Tryz.prog CX 48 c48 := ⟨⟨_, Tryz.func48, by kernel_rfl, by kernel_rfl, by kernel_rfl⟩⟩
theorem ok50 : FnOk Tryz.prog CX 50 c50 := ⟨⟨_, Tryz.func50, by kernel_rfl, by kernel_rfl, by kernel_rfl⟩⟩
theorem ok52 : FnOk Tryz.prog CX 52 c52 := ⟨⟨_, Tryz.func52, by kernel_rfl, by kernel_rfl, by kernel_rfl⟩⟩
theorem ok53 : FnOk Tryz.prog CX 53 c53 := ⟨⟨_, Tryz.func53, by kernel_rfl, by kernel_rfl, by kernel_rfl⟩⟩
theorem ok54 : FnOk Tryz.prog CX 54 c54 := ⟨⟨_, Tryz.func54, by kernel_rfl, by kernel_rfl, by kernel_rfl⟩⟩
theorem ok55 : FnOk Tryz.prog CX 55 c55 := ⟨⟨_, Tryz.func55, by kernel_rfl, by kernel_rfl, by kernel_rfl⟩⟩
theorem ok56 : FnOk Tryz.prog CX 56 c56 := ⟨⟨_, Tryz.func56, by kernel_rfl, by kernel_rfl, by kernel_rfl⟩⟩
theorem ok57 : FnOk Tryz.prog CX 57 c57 := ⟨⟨_, Tryz.func57, by kernel_rfl, by kernel_rfl, by kernel_rfl⟩⟩
theorem ok58 : FnOk Tryz.prog CX 58 c58 := ⟨⟨_, Tryz.func58, by kernel_rfl, by kernel_rfl, by kernel_rfl⟩⟩
theorem ok59 : FnOk Tryz.prog CX 59 c59 := ⟨⟨_, Tryz.func59, by kernel_rfl, by kernel_rfl, by kernel_rfl⟩⟩
theorem ok60 : FnOk Tryz.prog CX 60 c60 := ⟨⟨_, Tryz.func60, by kernel_rfl, by kernel_rfl, by kernel_rfl⟩⟩
theorem ok61 : FnOk Tryz.prog CX 61 c61 := ⟨⟨_, Tryz.func61, by kernel_rfl, by kernel_rfl, by kernel_rfl⟩⟩
theorem ok62 : FnOk Tryz.prog CX 62 c62 := ⟨⟨_, Tryz.func62, by kernel_rfl, by kernel_rfl, by kernel_rfl⟩⟩
theorem ok63 : FnOk Tryz.prog CX 63 c63 := ⟨⟨_, Tryz.func63, by kernel_rfl, by kernel_rfl, by kernel_rfl⟩⟩
theorem ok64 : FnOk Tryz.prog CX 64 c64 := ⟨⟨_, Tryz.func64, by kernel_rfl, by kernel_rfl, by kernel_rfl⟩⟩
theorem ok65 : FnOk Tryz.prog CX 65 c65 := ⟨⟨_, Tryz.func65, by kernel_rfl, by kernel_rfl, by kernel_rfl⟩⟩
theorem ok66 : FnOk Tryz.prog CX 66 c66 := ⟨⟨_, Tryz.func66, by kernel_rfl, by kernel_rfl, by kernel_rfl⟩⟩
theorem ok67 : FnOk Tryz.prog CX 67 c67 := ⟨⟨_, Tryz.func67, by kernel_rfl, by kernel_rfl, by kernel_rfl⟩⟩
theorem ok68 : FnOk Tryz.prog CX 68 c68 := ⟨⟨_, Tryz.func68, by kernel_rfl, by kernel_rfl, by kernel_rfl⟩⟩
theorem ok69 : FnOk Tryz.prog CX 69 c69 := ⟨⟨_, Tryz.func69, by kernel_rfl, by kernel_rfl, by kernel_rfl⟩⟩
theorem ok80 : FnOk Tryz.prog CX 80 c80 := ⟨⟨_, Tryz.func80, by kernel_rfl, by kernel_rfl, by kernel_rfl⟩⟩
theorem ok81 : FnOk Tryz.prog CX 81 c81 := ⟨⟨_, Tryz.func81, by kernel_rfl, by kernel_rfl, by kernel_rfl⟩⟩
theorem ok82 : FnOk Tryz.prog CX 82 c82 := ⟨⟨_, Tryz.func82, by kernel_rfl, by kernel_rfl, by kernel_rfl⟩⟩
theorem ok87 : FnOk Tryz.prog CX 87 c87 := ⟨⟨_, Tryz.func87, by kernel_rfl, by kernel_rfl, by kernel_rfl⟩⟩
theorem ok88 : FnOk Tryz.prog CX 88 c88 := ⟨⟨_, Tryz.func88, by kernel_rfl, by kernel_rfl, by kernel_rfl⟩⟩
theorem ok89 : FnOk Tryz.prog CX 89 c89 := ⟨⟨_, Tryz.func89, by kernel_rfl, by kernel_rfl, by kernel_rfl⟩⟩
theorem ok90 : FnOk Tryz.prog CX 90 c90 := ⟨⟨_, Tryz.func90, by kernel_rfl, by kernel_rfl, by kernel_rfl⟩⟩
theorem ok93 : FnOk Tryz.prog CX 93 c93 := ⟨⟨_, Tryz.func93, by kernel_rfl, by kernel_rfl, by kernel_rfl⟩⟩
theorem ok94 : FnOk Tryz.prog CX 94 c94 := ⟨⟨_, Tryz.func94, by kernel_rfl, by kernel_rfl, by kernel_rfl⟩⟩
theorem ok95 : FnOk Tryz.prog CX 95 c95 := ⟨⟨_, Tryz.func95, by kernel_rfl, by kernel_rfl, by kernel_rfl⟩⟩
theorem ok96 : FnOk Tryz.prog CX 96 c96 := ⟨⟨_, Tryz.func96, by kernel_rfl, by kernel_rfl, by kernel_rfl⟩⟩
theorem ok97 : FnOk Tryz.prog CX 97 c97 := ⟨⟨_, Tryz.func97, by kernel_rfl, by kernel_rfl, by kernel_rfl⟩⟩
theorem ok98 : FnOk Tryz.prog CX 98 c98 := ⟨⟨_, Tryz.func98, by kernel_rfl, by kernel_rfl, by kernel_rfl⟩⟩
theorem ok99 : FnOk Tryz.prog CX 99 c99 := ⟨⟨_, Tryz.func99, by kernel_rfl, by kernel_rfl, by kernel_rfl⟩⟩
theorem ok100 : FnOk Tryz.prog CX 100 c100 := ⟨⟨_, Tryz.func100, by kernel_rfl, by kernel_rfl, by kernel_rfl⟩⟩
theorem ok101 : FnOk Tryz.prog CX 101 c101 := ⟨⟨_, Tryz.func101, by kernel_rfl, by kernel_rfl, by kernel_rfl⟩⟩
theorem ok102 : FnOk Tryz.prog CX 102 c102 := ⟨⟨_, Tryz.func102, by kernel_rfl, by kernel_rfl, by kernel_rfl⟩⟩
theorem ok103 : FnOk Tryz.prog CX 103 c103 := ⟨⟨_, Tryz.func103, by kernel_rfl, by kernel_rfl, by kernel_rfl⟩⟩
theorem ok104 : FnOk Tryz.prog CX 104 c104 := ⟨⟨_, Tryz.func104, by kernel_rfl, by kernel_rfl, by kernel_rfl⟩⟩
theorem ok105 : FnOk Tryz.prog CX 105 c105 := ⟨⟨_, Tryz.func105, by kernel_rfl, by kernel_rfl, by kernel_rfl⟩⟩
theorem ok106 : FnOk Tryz.prog CX 106 c106 := ⟨⟨_, Tryz.func106, by kernel_rfl, by kernel_rfl, by kernel_rfl⟩⟩
theorem ok107 : FnOk Tryz.prog CX 107 c107 := ⟨⟨_, Tryz.func107, by kernel_rfl, by kernel_rfl, by kernel_rfl⟩⟩
theorem ok108 : FnOk Tryz.prog CX 108 c108 := ⟨⟨_, Tryz.func108, by kernel_rfl, by kernel_rfl, by kernel_rfl⟩⟩
theorem ok109 : FnOk Tryz.prog CX 109 c109 := ⟨⟨_, Tryz.func109, by kernel_rfl, by kernel_rfl, by kernel_rfl⟩⟩
theorem ok110 : FnOk Tryz.prog CX 110 c110 := ⟨⟨_, Tryz.func110, by kernel_rfl, by kernel_rfl, by kernel_rfl⟩⟩
theorem ok111 : FnOk Tryz.prog CX 111 c111 := ⟨⟨_, Tryz.func111, by kernel_rfl, by kernel_rfl, by kernel_rfl⟩⟩
theorem ok112 : FnOk Tryz.prog CX 112 c112 := ⟨⟨_, Tryz.func112, by kernel_rfl, by kernel_rfl, by kernel_rfl⟩⟩
theorem ok113 : FnOk Tryz.prog CX 113 c113 := ⟨⟨_, Tryz.func113, by kernel_rfl, by kernel_rfl, by kernel_rfl⟩⟩
theorem ok114 : FnOk Tryz.prog CX 114 c114 := ⟨⟨_, Tryz.func114, by kernel_rfl, by kernel_rfl, by kernel_rfl⟩⟩
theorem ok115 : FnOk Tryz.prog CX 115 c115 := ⟨⟨_, Tryz.func115, by kernel_rfl, by kernel_rfl, by kernel_rfl⟩⟩
theorem ok116 : FnOk Tryz.prog CX 116 c116 := ⟨⟨_, Tryz.func116, by kernel_rfl, by kernel_rfl, by kernel_rfl⟩⟩
theorem ok117 : FnOk Tryz.prog CX 117 c117 := ⟨⟨_, Tryz.func117, by kernel_rfl, by kernel_rfl, by kernel_rfl⟩⟩
theorem ok126 : FnOk Tryz.prog CX 126 c126 := ⟨⟨_, Tryz.func126, by kernel_rfl, by kernel_rfl, by kernel_rfl⟩⟩
theorem ok127 : FnOk Tryz.prog CX 127 c127 := ⟨⟨_, Tryz.func127, by kernel_rfl, by kernel_rfl, by kernel_rfl⟩⟩
theorem ok128 : FnOk Tryz.prog CX 128 c128 := ⟨⟨_, Tryz.func128, by kernel_rfl, by kernel_rfl, by kernel_rfl⟩⟩
theorem ok129 : FnOk Tryz.prog CX 129 c129 := ⟨⟨_, Tryz.func129, by kernel_rfl, by kernel_rfl, by kernel_rfl⟩⟩
theorem ok130 : FnOk Tryz.prog CX 130 c130 := ⟨⟨_, Tryz.func130, by kernel_rfl, by kernel_rfl, by kernel_rfl⟩⟩
theorem ok131 : FnOk Tryz.prog CX 131 c131 := ⟨⟨_, Tryz.func131, by kernel_rfl, by kernel_rfl, by kernel_rfl⟩⟩
theorem ok132 : FnOk Tryz.prog CX 132 c132 := ⟨⟨_, Tryz.func132, by kernel_rfl, by kernel_rfl, by kernel_rfl⟩⟩
theorem ok133 : FnOk Tryz.prog CX 133 c133 := ⟨⟨_, Tryz.func133, by kernel_rfl, by kernel_rfl, by kernel_rfl⟩⟩
theorem ok134 : FnOk Tryz.prog CX 134 c134 := ⟨⟨_, Tryz.func134, by kernel_rfl, by kernel_rfl, by kernel_rfl⟩⟩
theorem ok135 : FnOk Tryz.prog CX 135 c135 := ⟨⟨_, Tryz.func135, by kernel_rfl, by kernel_rfl, by kernel_rfl⟩⟩
theorem ok136 : FnOk Tryz.prog CX 136 c136 := ⟨⟨_, Tryz.func136, by kernel_rfl, by kernel_rfl, by kernel_rfl⟩⟩
theorem ok137 : FnOk Tryz.prog CX 137 c137 := ⟨⟨_, Tryz.func137, by kernel_rfl, by kernel_rfl, by kernel_rfl⟩⟩
theorem ok138 : FnOk Tryz.prog CX 138 c138 := ⟨⟨_, Tryz.func138, by kernel_rfl, by kernel_rfl, by kernel_rfl⟩⟩
theorem ok139 : FnOk Tryz.prog CX 139 c139 := ⟨⟨_, Tryz.func139, by kernel_rfl, by kernel_rfl, by kernel_rfl⟩⟩
theorem ok140 : FnOk Tryz.prog CX 140 c140 := ⟨⟨_, Tryz.func140, by kernel_rfl, by kernel_rfl, by kernel_rfl⟩⟩
theorem ok141 : FnOk Tryz.prog CX 141 c141 := ⟨⟨_, Tryz.func141, by kernel_rfl, by kernel_rfl, by kernel_rfl⟩⟩
theorem ok142 : FnOk Tryz.prog CX 142 c142 := ⟨⟨_, Tryz.func142, by kernel_rfl, by kernel_rfl, by kernel_rfl⟩⟩
theorem ok143 : FnOk Tryz.prog CX 143 c143 := ⟨⟨_, Tryz.func143, by kernel_rfl, by kernel_rfl, by kernel_rfl⟩⟩
theorem ok144 : FnOk Tryz.prog CX 144 c144 := ⟨⟨_, Tryz.func144, by kernel_rfl, by kernel_rfl, by kernel_rfl⟩⟩
theorem ok145 : FnOk Tryz.prog CX 145 c145 := ⟨⟨_, Tryz.func145, by kernel_rfl, by kernel_rfl, by kernel_rfl⟩⟩
theorem ok146 : FnOk Tryz.prog CX 146 c146 := ⟨⟨_, Tryz.func146, by kernel_rfl, by kernel_rfl, by kernel_rfl⟩⟩
theorem ok147 : FnOk Tryz.prog CX 147 c147 := ⟨⟨_, Tryz.func147, by kernel_rfl, by kernel_rfl, by kernel_rfl⟩⟩
theorem ok148 : FnOk Tryz.prog CX 148 c148 := ⟨⟨_, Tryz.func148, by kernel_rfl, by kernel_rfl, by kernel_rfl⟩⟩
theorem ok149 : FnOk Tryz.prog CX 149 c149 := ⟨⟨_, Tryz.func149, by kernel_rfl, by kernel_rfl, by kernel_rfl⟩⟩
theorem ok150 : FnOk Tryz.prog CX 150 c150 := ⟨⟨_, Tryz.func150, by kernel_rfl, by kernel_rfl, by kernel_rfl⟩⟩
theorem ok151 : FnOk Tryz.prog CX 151 c151 := ⟨⟨_, Tryz.func151, by kernel_rfl, by kernel_rfl, by kernel_rfl⟩⟩
theorem ok152 : FnOk Tryz.prog CX 152 c152 := ⟨⟨_, Tryz.func152, by kernel_rfl, by kernel_rfl, by kernel_rfl⟩⟩
theorem ok153 : FnOk Tryz.prog CX 153 c153 := ⟨⟨_, Tryz.func153, by kernel_rfl, by kernel_rfl, by kernel_rfl⟩⟩
theorem ok154 : FnOk Tryz.prog CX 154 c154 := ⟨⟨_, Tryz.func154, by kernel_rfl, by kernel_rfl, by kernel_rfl⟩⟩
theorem ok155 : FnOk Tryz.prog CX 155 c155 := ⟨⟨_, Tryz.func155, by kernel_rfl, by kernel_rfl, by kernel_rfl⟩⟩
theorem ok156 : FnOk Tryz.prog CX 156 c156 := ⟨⟨_, Tryz.func156, by kernel_rfl, by kernel_rfl, by kernel_rfl⟩⟩
theorem ok157 : FnOk Tryz.prog CX 157 c157 := ⟨⟨_, Tryz.func157, by kernel_rfl, by kernel_rfl, by kernel_rfl⟩⟩
theorem ok158 : FnOk Tryz.prog CX 158 c158 := ⟨⟨_, Tryz.func158, by kernel_rfl, by kernel_rfl, by kernel_rfl⟩⟩
theorem ok159 : FnOk Tryz.prog CX 159 c159 := ⟨⟨_, Tryz.func159, by kernel_rfl, by kernel_rfl, by kernel_rfl⟩⟩
theorem ok160 : FnOk Tryz.prog CX 160 c160 := ⟨⟨_, Tryz.func160, by kernel_rfl, by kernel_rfl, by kernel_rfl⟩⟩
theorem ok161 : FnOk Tryz.prog CX 161 c161 := ⟨⟨_, Tryz.func161, by kernel_rfl, by kernel_rfl, by kernel_rfl⟩⟩
theorem ok162 : FnOk Tryz.prog CX 162 c162 := ⟨⟨_, Tryz.func162, by kernel_rfl, by kernel_rfl, by kernel_rfl⟩⟩
theorem ok163 : FnOk Tryz.prog CX 163 c163 := ⟨⟨_, Tryz.func163, by kernel_rfl, by kernel_rfl, by kernel_rfl⟩⟩
theorem ok164 : FnOk Tryz.prog CX 164 c164 := ⟨⟨_, Tryz.func164, by kernel_rfl, by kernel_rfl, by kernel_rfl⟩⟩
theorem ok165 : FnOk Tryz.prog CX 165 c165 := ⟨⟨_, Tryz.func165, by kernel_rfl, by kernel_rfl, by kernel_rfl⟩⟩
theorem ok166 : FnOk Tryz.prog CX 166 c166 := ⟨⟨_, Tryz.func166, by kernel_rfl, by kernel_rfl, by kernel_rfl⟩⟩
theorem ok167 : FnOk Tryz.prog CX 167 c167 := ⟨⟨_, Tryz.func167, by kernel_rfl, by kernel_rfl, by kernel_rfl⟩⟩
theorem ok168 : FnOk Tryz.prog CX 168 c168 := ⟨⟨_, Tryz.func168, by kernel_rfl, by kernel_rfl, by kernel_rfl⟩⟩
theorem ok169 : FnOk Tryz.prog CX 169 c169 := ⟨⟨_, Tryz.func169, by kernel_rfl, by kernel_rfl, by kernel_rfl⟩⟩
theorem ok170 : FnOk Tryz.prog CX 170 c170 := ⟨⟨_, Tryz.func170, by kernel_rfl, by kernel_rfl, by kernel_rfl⟩⟩
theorem ok171 : FnOk Tryz.prog CX 171 c171 := ⟨⟨_, Tryz.func171, by kernel_rfl, by kernel_rfl, by kernel_rfl⟩⟩
theorem ok172 : FnOk Tryz.prog CX 172 c172 := ⟨⟨_, Tryz.func172, by kernel_rfl, by kernel_rfl, by kernel_rfl⟩⟩
theorem ok173 : FnOk Tryz.prog CX 173 c173 := ⟨⟨_, Tryz.func173, by kernel_rfl, by kernel_rfl, by kernel_rfl⟩⟩
theorem ok174 : FnOk Tryz.prog CX 174 c174 := ⟨⟨_, Tryz.func174, by kernel_rfl, by kernel_rfl, by kernel_rfl⟩⟩
theorem ok175 : FnOk Tryz.prog CX 175 c175 := ⟨⟨_, Tryz.func175, by kernel_rfl, by kernel_rfl, by kernel_rfl⟩⟩
theorem ok177 : FnOk Tryz.prog CX 177 c177 := ⟨⟨_, Tryz.func177, by kernel_rfl, by kernel_rfl, by kernel_rfl⟩⟩
theorem ok178 : FnOk Tryz.prog CX 178 c178 := ⟨⟨_, Tryz.func178, by kernel_rfl, by kernel_rfl, by kernel_rfl⟩⟩
theorem ok179 : FnOk Tryz.prog CX 179 c179 := ⟨⟨_, Tryz.func179, by kernel_rfl, by kernel_rfl, by kernel_rfl⟩⟩
theorem ok180 : FnOk Tryz.prog CX 180 c180 := ⟨⟨_, Tryz.func180, by kernel_rfl, by kernel_rfl, by kernel_rfl⟩⟩
theorem ok181 : FnOk Tryz.prog CX 181 c181 := ⟨⟨_, Tryz.func181, by kernel_rfl, by kernel_rfl, by kernel_rfl⟩⟩
theorem ok182 : FnOk Tryz.prog CX 182 c182 := ⟨⟨_, Tryz.func182, by kernel_rfl, by kernel_rfl, by kernel_rfl⟩⟩
theorem ok183 : FnOk Tryz.prog CX 183 c183 := ⟨⟨_, Tryz.func183, by kernel_rfl, by kernel_rfl, by kernel_rfl⟩⟩
theorem ok184 : FnOk Tryz.prog CX 184 c184 := ⟨⟨_, Tryz.func184, by kernel_rfl, by kernel_rfl, by kernel_rfl⟩⟩
theorem ok185 : FnOk Tryz.prog CX 185 c185 := ⟨⟨_, Tryz.func185, by kernel_rfl, by kernel_rfl, by kernel_rfl⟩⟩
theorem ok187 : FnOk Tryz.prog CX 187 c187 := ⟨⟨_, Tryz.func187, by kernel_rfl, by kernel_rfl, by kernel_rfl⟩⟩
theorem ok188 : FnOk Tryz.prog CX 188 c188 := ⟨⟨_, Tryz.func188, by kernel_rfl, by kernel_rfl, by kernel_rfl⟩⟩
theorem ok189 : FnOk Tryz.prog CX 189 c189 := ⟨⟨_, Tryz.func189, by kernel_rfl, by kernel_rfl, by kernel_rfl⟩⟩
theorem ok190 : FnOk Tryz.prog CX 190 c190 := ⟨⟨_, Tryz.func190, by kernel_rfl, by kernel_rfl, by kernel_rfl⟩⟩
theorem ok191 : FnOk Tryz.prog CX 191 c191 := ⟨⟨_, Tryz.func191, by kernel_rfl, by kernel_rfl, by kernel_rfl⟩⟩
theorem ok192 : FnOk Tryz.prog CX 192 c192 := ⟨⟨_, Tryz.func192, by kernel_rfl, by kernel_rfl, by kernel_rfl⟩⟩
theorem ok193 : FnOk Tryz.prog CX 193 c193 := ⟨⟨_, Tryz.func193, by kernel_rfl, by kernel_rfl, by kernel_rfl⟩⟩
theorem ok194 : FnOk Tryz.prog CX 194 c194 := ⟨⟨_, Tryz.func194, by kernel_rfl, by kernel_rfl, by kernel_rfl⟩⟩
theorem ok195 : FnOk Tryz.prog CX 195 c195 := ⟨⟨_, Tryz.func195, by kernel_rfl, by kernel_rfl, by kernel_rfl⟩⟩
theorem ok196 : FnOk Tryz.prog CX 196 c196 := ⟨⟨_, Tryz.func196, by kernel_rfl, by kernel_rfl, by kernel_rfl⟩⟩
theorem ok197 : FnOk Tryz.prog CX 197 c197 := ⟨⟨_, Tryz.func197, by kernel_rfl, by kernel_rfl, by kernel_rfl⟩⟩
theorem ok198 : FnOk Tryz.prog CX 198 c198 := ⟨⟨_, Tryz.func198, by kernel_rfl, by kernel_rfl, by kernel_rfl⟩⟩
theorem ok199 : FnOk Tryz.prog CX 199 c199 := ⟨⟨_, Tryz.func199, by kernel_rfl, by kernel_rfl, by kernel_rfl⟩⟩
theorem ok200 : FnOk Tryz.prog CX 200 c200 := ⟨⟨_, Tryz.func200, by kernel_rfl, by kernel_rfl, by kernel_rfl⟩⟩
theorem ok201 : FnOk Tryz.prog CX 201 c201 := ⟨⟨_, Tryz.func201, by kernel_rfl, by kernel_rfl, by kernel_rfl⟩⟩
theorem ok202 : FnOk Tryz.prog CX 202 c202 := ⟨⟨_, Tryz.func202, by kernel_rfl, by kernel_rfl, by kernel_rfl⟩⟩
theorem ok203 : FnOk Tryz.prog CX 203 c203 := ⟨⟨_, Tryz.func203, by kernel_rfl, by kernel_rfl, by kernel_rfl⟩⟩
theorem ok207 : FnOk Tryz.prog CX 207 c207 := ⟨⟨_, Tryz.func207, by kernel_rfl, by kernel_rfl, by kernel_rfl⟩⟩
theorem ok208 : FnOk Tryz.prog CX 208 c208 := ⟨⟨_, Tryz.func208, by kernel_rfl, by kernel_rfl, by kernel_rfl⟩⟩
theorem ok209 : FnOk Tryz.prog CX 209 c209 := ⟨⟨_, Tryz.func209, by kernel_rfl, by kernel_rfl, by kernel_rfl⟩⟩
theorem ok210 : FnOk Tryz.prog CX 210 c210 := ⟨⟨_, Tryz.func210, by kernel_rfl, by kernel_rfl, by kernel_rfl⟩⟩
theorem ok211 : FnOk Tryz.prog CX 211 c211 := ⟨⟨_, Tryz.func211, by kernel_rfl, by kernel_rfl, by kernel_rfl⟩⟩
theorem ok212 : FnOk Tryz.prog CX 212 c212 := ⟨⟨_, Tryz.func212, by kernel_rfl, by kernel_rfl, by kernel_rfl⟩⟩
theorem ok213 : FnOk Tryz.prog CX 213 c213 := ⟨⟨_, Tryz.func213, by kernel_rfl, by kernel_rfl, by kernel_rfl⟩⟩
theorem ok214 : FnOk Tryz.prog CX 214 c214 := ⟨⟨_, Tryz.func214, by kernel_rfl, by kernel_rfl, by kernel_rfl⟩⟩
theorem ok215 : FnOk Tryz.prog CX 215 c215 := ⟨⟨_, Tryz.func215, by kernel_rfl, by kernel_rfl, by kernel_rfl⟩⟩
theorem ok216 : FnOk Tryz.prog CX 216 c216 := ⟨⟨_, Tryz.func216, by kernel_rfl, by kernel_rfl, by kernel_rfl⟩⟩
theorem ok217 : FnOk Tryz.prog CX 217 c217 := ⟨⟨_, Tryz.func217, by kernel_rfl, by kernel_rfl, by kernel_rfl⟩⟩
theorem ok218 : FnOk Tryz.prog CX 218 c218 := ⟨⟨_, Tryz.func218, by kernel_rfl, by kernel_rfl, by kernel_rfl⟩⟩
theorem ok219 : FnOk Tryz.prog CX 219 c219 := ⟨⟨_, Tryz.func219, by kernel_rfl, by kernel_rfl, by kernel_rfl⟩⟩
theorem ok220 : FnOk Tryz.prog CX 220 c220 := ⟨⟨_, Tryz.func220, by kernel_rfl, by kernel_rfl, by kernel_rfl⟩⟩
theorem ok221 : FnOk Tryz.prog CX 221 c221 := ⟨⟨_, Tryz.func221, by kernel_rfl, by kernel_rfl, by kernel_rfl⟩⟩
theorem ok222 : FnOk Tryz.prog CX 222 c222 := ⟨⟨_, Tryz.func222, by kernel_rfl, by kernel_rfl, by kernel_rfl⟩⟩
theorem ok223 : FnOk Tryz.prog CX 223 c223 := ⟨⟨_, Tryz.func223, by kernel_rfl, by kernel_rfl, by kernel_rfl⟩⟩
theorem ok224 : FnOk Tryz.prog CX 224 c224 := ⟨⟨_, Tryz.func224, by kernel_rfl, by kernel_rfl, by kernel_rfl⟩⟩
theorem ok225 : FnOk Tryz.prog CX 225 c225 := ⟨⟨_, Tryz.func225, by kernel_rfl, by kernel_rfl, by kernel_rfl⟩⟩
theorem ok228 : FnOk Tryz.prog CX 228 c228 := ⟨⟨_, Tryz.func228, by kernel_rfl, by kernel_rfl, by kernel_rfl⟩⟩
theorem ok229 : FnOk Tryz.prog CX 229 c229 := ⟨⟨_, Tryz.func229, by kernel_rfl, by kernel_rfl, by kernel_rfl⟩⟩
theorem ok230 : FnOk Tryz.prog CX 230 c230 := ⟨⟨_, Tryz.func230, by kernel_rfl, by kernel_rfl, by kernel_rfl⟩⟩
theorem ok231 : FnOk Tryz.prog CX 231 c231 := ⟨⟨_, Tryz.func231, by kernel_rfl, by kernel_rfl, by kernel_rfl⟩⟩
theorem ok233 : FnOk Tryz.prog CX 233 c233 := ⟨⟨_, Tryz.func233, by kernel_rfl, by kernel_rfl, by kernel_rfl⟩⟩
theorem ok234 : FnOk Tryz.prog CX 234 c234 := ⟨⟨_, Tryz.func234, by kernel_rfl, by kernel_rfl, by kernel_rfl⟩⟩
theorem ok235 : FnOk Tryz.prog CX 235 c235 := ⟨⟨_, Tryz.func235, by kernel_rfl, by kernel_rfl, by kernel_rfl⟩⟩
theorem ok236 : FnOk Tryz.prog CX 236 c236 := ⟨⟨_, Tryz.func236, by kernel_rfl, by kernel_rfl, by kernel_rfl⟩⟩
theorem ok237 : FnOk Tryz.prog CX 237 c237 := ⟨⟨_, Tryz.func237, by kernel_rfl, by kernel_rfl, by kernel_rfl⟩⟩
theorem ok238 : FnOk Tryz.prog CX 238 c238 := ⟨⟨_, Tryz.func238, by kernel_rfl, by kernel_rfl, by kernel_rfl⟩⟩
theorem ok239 : FnOk Tryz.prog CX 239 c239 := ⟨⟨_, Tryz.func239, by kernel_rfl, by kernel_rfl, by kernel_rfl⟩⟩
theorem ok240 : FnOk Tryz.prog CX 240 c240 := ⟨⟨_, Tryz.func240, by kernel_rfl, by kernel_rfl, by kernel_rfl⟩⟩
theorem ok241 : FnOk Tryz.prog CX 241 c241 := ⟨⟨_, Tryz.func241, by kernel_rfl, by kernel_rfl, by kernel_rfl⟩⟩
theorem ok242 : FnOk Tryz.prog CX 242 c242 := ⟨⟨_, Tryz.func242, by kernel_rfl, by kernel_rfl, by kernel_rfl⟩⟩
theorem ok243 : FnOk Tryz.prog CX 243 c243 := ⟨⟨_, Tryz.func243, by kernel_rfl, by kernel_rfl, by kernel_rfl⟩⟩
theorem ok245 : FnOk Tryz.prog CX 245 c245 := ⟨⟨_, Tryz.func245, by kernel_rfl, by kernel_rfl, by kernel_rfl⟩⟩
theorem ok246 : FnOk Tryz.prog CX 246 c246 := ⟨⟨_, Tryz.func246, by kernel_rfl, by kernel_rfl, by kernel_rfl⟩⟩
theorem ok247 : FnOk Tryz.prog CX 247 c247 := ⟨⟨_, Tryz.func247, by kernel_rfl, by kernel_rfl, by kernel_rfl⟩⟩
theorem ok248 : FnOk Tryz.prog CX 248 c248 := ⟨⟨_, Tryz.func248, by kernel_rfl, by kernel_rfl, by kernel_rfl⟩⟩
theorem ok249 : FnOk Tryz.prog CX 249 c249 := ⟨⟨_, Tryz.func249, by kernel_rfl, by kernel_rfl, by kernel_rfl⟩⟩
theorem ok250 : FnOk Tryz.prog CX 250 c250 := ⟨⟨_, Tryz.func250, by kernel_rfl, by kernel_rfl, by kernel_rfl⟩⟩
theorem ok251 : FnOk Tryz.prog CX 251 c251 := ⟨⟨_, Tryz.func251, by kernel_rfl, by kernel_rfl, by kernel_rfl⟩⟩
theorem ok252 : FnOk Tryz.prog CX 252 c252 := ⟨⟨_, Tryz.func252, by kernel_rfl, by kernel_rfl, by kernel_rfl⟩⟩
theorem ok253 : FnOk Tryz.prog CX 253 c253 := ⟨⟨_, Tryz.func253, by kernel_rfl, by kernel_rfl, by kernel_rfl⟩⟩
theorem ok254 : FnOk Tryz.prog CX 254 c254 := ⟨⟨_, Tryz.func254, by kernel_rfl, by kernel_rfl, by kernel_rfl⟩⟩
theorem ok255 : FnOk Tryz.prog CX 255 c255 := ⟨⟨_, Tryz.func255, by kernel_rfl, by kernel_rfl, by kernel_rfl⟩⟩
theorem ok256 : FnOk Tryz.prog CX 256 c256 := ⟨⟨_, Tryz.func256, by kernel_rfl, by kernel_rfl, by kernel_rfl⟩⟩
theorem ok257 : FnOk Tryz.prog CX 257 c257 := ⟨⟨_, Tryz.func257, by kernel_rfl, by kernel_rfl, by kernel_rfl⟩⟩
theorem ok258 : FnOk Tryz.prog CX 258 c258 := ⟨⟨_, Tryz.func258, by kernel_rfl, by kernel_rfl, by kernel_rfl⟩⟩
theorem ok259 : FnOk Tryz.prog CX 259 c259 := ⟨⟨_, Tryz.func259, by kernel_rfl, by kernel_rfl, by kernel_rfl⟩⟩
theorem ok260 : FnOk Tryz.prog CX 260 c260 := ⟨⟨_, Tryz.func260, by kernel_rfl, by kernel_rfl, by kernel_rfl⟩⟩
theorem ok261 : FnOk Tryz.prog CX 261 c261 := ⟨⟨_, Tryz.func261, by kernel_rfl, by kernel_rfl, by kernel_rfl⟩⟩
theorem ok262 : FnOk Tryz.prog CX 262 c262 := ⟨⟨_, Tryz.func262, by kernel_rfl, by kernel_rfl, by kernel_rfl⟩⟩
theorem ok263 : FnOk Tryz.prog CX 263 c263 := ⟨⟨_, Tryz.func263, by kernel_rfl, by kernel_rfl, by kernel_rfl⟩⟩
theorem ok5 : FnOk Tryz.prog CB 5 c5 := ⟨⟨_, Tryz.func5, by kernel_rfl, by kernel_rfl, by kernel_rfl⟩⟩
theorem ok6 : FnOk Tryz.prog CB 6 c6 := ⟨⟨_, Tryz.func6, by kernel_rfl, by kernel_rfl, by kernel_rfl⟩⟩
theorem ok7 : FnOk Tryz.prog CB 7 c7 := ⟨⟨_, Tryz.func7, by kernel_rfl, by kernel_rfl, by kernel_rfl⟩⟩
theorem row0 : RowOk Tryz.prog CX 0 [none, none, none, none, none, none, none, none, some c8, some c9, none, none, some c12, some c13, some c14, some c15] := ⟨ok8, ok9, ok12, ok13, ok14, ok15, trivial⟩
theorem row1 : RowOk Tryz.prog CX 16 [some c16, some c17, some c18, some c19, some c20, some c21, some c22, some c23, some c24, some c25, some c26, some c27, none, none, none, none] := ⟨ok16, ok17, ok18, ok19, ok20, ok21, ok22, ok23, ok24, ok25, ok26, ok27, trivial⟩
theorem row2 : RowOk Tryz.prog CX 32 [none, none, none, none, none, none, none, some c39, none, none, none, none, none, none, some c46, none] := ⟨ok39, ok46, trivial⟩
theorem row3 : RowOk Tryz.prog CX 48 [some c48, none, some c50, none, some c52, some c53, some c54, some c55, some c56, some c57, some c58, some c59, some c60, some c61, some c62, some c63] := ⟨ok48, ok50, ok52, ok53, ok54, ok55, ok56, ok57, ok58, ok59, ok60, ok61, ok62, ok63, trivial⟩
theorem row4 : RowOk Tryz.prog CX 64 [some c64, some c65, some c66, some c67, some c68, some c69, none, none, none, none, none, none, none, none, none, none] := ⟨ok64, ok65, ok66, ok67, ok68, ok69, trivial⟩
theorem row5 : RowOk Tryz.prog CX 80 [some c80, some c81, some c82, none, none, none, none, some c87, some c88, some c89, some c90, none, none, some c93, some c94, some c95] := ⟨ok80, ok81, ok82, ok87, ok88, ok89, ok90, ok93, ok94, ok95, trivial⟩
theorem row6 : RowOk Tryz.prog CX 96 [some c96, some c97, some c98, some c99, some c100, some c101, some c102, some c103, some c104, some c105, some c106, some c107, some c108, some c109, some c110, some c111] := ⟨ok96, ok97, ok98, ok99, ok100, ok101, ok102, ok103, ok104, ok105, ok106, ok107, ok108, ok109, ok110, ok111, trivial⟩
theorem row7 : RowOk Tryz.prog CX 112 [some c112, some c113, some c114, some c115, some c116, some c117, none, none, none, none, none, none, none, none, some c126, some c127] := ⟨ok112, ok113, ok114, ok115, ok116, ok117, ok126, ok127, trivial⟩
theorem row8 : RowOk Tryz.prog CX 128 [some c128, some c129, some c130, some c131, some c132, some c133, some c134, some c135, some c136, some c137, some c138, some c139, some c140, some c141, some c142, some c143] := ⟨ok128, ok129, ok130, ok131, ok132, ok133, ok134, ok135, ok136, ok137, ok138, ok139, ok140, ok141, ok142, ok143, trivial⟩
theorem row9 : RowOk Tryz.prog CX 144 [some c144, some c145, some c146, some c147, some c148, some c149, some c150, some c151, some c152, some c153, some c154, some c155, some c156, some c157, some c158, some c159] := ⟨ok144, ok145, ok146, ok147, ok148, ok149, ok150, ok151, ok152, ok153, ok154, ok155, ok156, ok157, ok158, ok159, trivial⟩
theorem row10 : RowOk Tryz.prog CX 160 [some c160, some c161, some c162, some c163, some c164, some c165, some c166, some c167, some c168, some c169, some c170, some c171, some c172, some c173, some c174, some c175] := ⟨ok160, ok161, ok162, ok163, ok164, ok165, ok166, ok167, ok168, ok169, ok170, ok171, ok172, ok173, ok174, ok175, trivial⟩
theorem row11 : RowOk Tryz.prog CX 176 [none, some c177, some c178, some c179, some c180, some c181, some c182, some c183, some c184, some c185, none, some c187, some c188, some c189, some c190, some c191] := ⟨ok177, ok178, ok179, ok180, ok181, ok182, ok183, ok184, ok185, ok187, ok188, ok189, ok190, ok191, trivial⟩
theorem row12 : RowOk Tryz.prog CX 192 [some c192, some c193, some c194, some c195, some c196, some c197, some c198, some c199, some c200, some c201, some c202, some c203, none, none, none, some c207] := ⟨ok192, ok193, ok194, ok195, ok196, ok197, ok198, ok199, ok200, ok201, ok202, ok203, ok207, trivial⟩
theorem row13 : RowOk Tryz.prog CX 208 [some c208, some c209, some c210, some c211, some c212, some c213, some c214, some c215, some c216, some c217, some c218, some c219, some c220, some c221, some c222, some c223] := ⟨ok208, ok209, ok210, ok211, ok212, ok213, ok214, ok215, ok216, ok217, ok218, ok219, ok220, ok221, ok222, ok223, trivial⟩
theorem row14 : RowOk Tryz.prog CX 224 [some c224, some c225, none, none, some c228, some c229, some c230, some c231, none, some c233, some c234, some c235, some c236, some c237, some c238, some c239] := ⟨ok224, ok225, ok228, ok229, ok230, ok231, ok233, ok234, ok235, ok236, ok237, ok238, ok239, trivial⟩
theorem row15 : RowOk Tryz.prog CX 240 [some c240, some c241, some c242, some c243, none, some c245, some c246, some c247, some c248, some c249, some c250, some c251, some c252, some c253, some c254, some c255] := ⟨ok240, ok241, ok242, ok243, ok245, ok246, ok247, ok248, ok249, ok250, ok251, ok252, ok253, ok254, ok255, trivial⟩
theorem row16 : RowOk Tryz.prog CX 256 [some c256, some c257, some c258, some c259, some c260, some c261, some c262, some c263, none, none, none, none, none, none, none, none] := ⟨ok256, ok257, ok258, ok259, ok260, ok261, ok262, ok263, trivial⟩
theorem row17 : RowOk Tryz.prog CX 272 [none, none, none, none, none, none, none, none, none, none, none, none, none, none, none, none] := trivial
theorem row18 : RowOk Tryz.prog CX 288 [none, none, none, none, none] := trivial
theorem tab : TabOk Tryz.prog CX 0 fnT := ⟨row0, row1, row2, row3, row4, row5, row6, row7, row8, row9, row10, row11, row12, row13, row14, row15, row16, row17, row18, trivial⟩
theorem tab_ok (f : FuncId) (k : Ev.Fn → Bool) (h : T f k = true) : ∃ c, k c = true ∧ FnOk Tryz.prog CX f c := by
  have h' : nthK fnT (Nat.div f 16) (fun l => nthK l (Nat.mod f 16) (fun x => optK x k)) = true := h
  simp only [nthK_iff, optK_iff] at h'
  obtain ⟨r, hr, x, hx, c, rfl, hk⟩ := h'
  refine ⟨c, hk, ?_⟩
  have := tab.get _ _ _ _ hr hx
  have e : (0 + 16 * Nat.div f 16 + Nat.mod f 16 : Nat) = f := by
    have : Nat.div f 16 = f / 16 := rfl
    have : Nat.mod f 16 = f % 16 := rfl
    omega
  rw [e] at this; exact this
theorem calls_ok (fuel depth : Nat) : CallOk Tryz.prog CX (callK T fuel depth) := callK_sound cx_ok mixed tab_ok fuel depth
end Go.Ev.R1
