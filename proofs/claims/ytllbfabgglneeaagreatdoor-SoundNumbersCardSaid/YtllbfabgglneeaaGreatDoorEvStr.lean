/- DERIVED. Strings as numbers. -/
import Derived.Test.YtllbfabgglneeaaGreatDoorEvOps2
set_option linter.unusedVariables false
namespace Go.Ev

def digits (l n : Nat) : List UInt8 := (List.range l).map fun j => UInt8.ofNat (n / 256 ^ j % 256)
theorem strB_data (l n : Nat) : (strB l n).data.toList = digits l n := by simp [strB, digits]
@[simp] theorem digits_length (l n : Nat) : (digits l n).length = l := by simp [digits]
@[simp] theorem strB_size (l n : Nat) : (strB l n).size = l := by simp [strB, ByteArray.size]
theorem digits_get (l n j : Nat) : (digits l n)[j]? = if j < l then some (UInt8.ofNat (n / 256 ^ j % 256)) else none := by
  unfold digits
  by_cases h : j < l
  · rw [List.getElem?_map, List.getElem?_range h, if_pos h]; rfl
  · rw [if_neg h, List.getElem?_eq_none (by simp; omega)]
theorem bytes_ext {a b : ByteArray} (h : a.data.toList = b.data.toList) : a = b := by
  apply ByteArray.ext; exact Array.ext' h
theorem strB_eq {s : ByteArray} {l n : Nat} (h : s.data.toList = digits l n) : s = strB l n := bytes_ext (h.trans (strB_data l n).symm)

theorem digit_mod (n l j : Nat) (h : j < l) : n % 256 ^ l / 256 ^ j % 256 = n / 256 ^ j % 256 := by
  obtain ⟨d, rfl⟩ : ∃ d, l = j + (d + 1) := ⟨l - j - 1, by omega⟩
  rw [Nat.pow_add, Nat.mod_mul_right_div_self, Nat.pow_succ, Nat.mul_comm (256 ^ d) 256, Nat.mod_mul_right_mod]
theorem digits_mod (l n : Nat) : digits l (n % 256 ^ l) = digits l n := by
  apply List.ext_getElem?; intro j
  rw [digits_get, digits_get]
  split
  · rw [digit_mod n l j ‹_›]
  · rfl
theorem ofNat_inj {a b : Nat} (ha : a < 256) (hb : b < 256) (h : UInt8.ofNat a = UInt8.ofNat b) : a = b := by
  have := congrArg UInt8.toNat h
  simpa [UInt8.toNat_ofNat', Nat.mod_eq_of_lt ha, Nat.mod_eq_of_lt hb] using this
theorem digits_inj : ∀ (l a b : Nat), a < 256 ^ l → b < 256 ^ l → digits l a = digits l b → a = b
  | 0, a, b, ha, hb, _ => by simp at ha hb; omega
  | l + 1, a, b, ha, hb, h => by
    have h0 : a % 256 = b % 256 := by
      have := congrArg (fun q => q[0]?) h
      simp only [digits_get] at this
      simp at this
      have h2 := ofNat_inj (Nat.mod_lt a (by decide)) (Nat.mod_lt b (by decide)) (by simpa using this)
      exact h2
    have h1 : digits l (a / 256) = digits l (b / 256) := by
      apply List.ext_getElem?; intro j
      have := congrArg (fun q => q[j + 1]?) h
      simp only [digits_get] at this ⊢
      have hlt : (j + 1 < l + 1) ↔ j < l := by omega
      simp only [hlt] at this
      have hp : ∀ n : Nat, n / 256 / 256 ^ j = n / 256 ^ (j + 1) := fun n => by rw [Nat.div_div_eq_div_mul, Nat.pow_succ, Nat.mul_comm]
      rw [hp, hp]; exact this
    have ha' : a / 256 < 256 ^ l := by rw [Nat.pow_succ] at ha; omega
    have hb' : b / 256 < 256 ^ l := by rw [Nat.pow_succ] at hb; omega
    have := digits_inj l _ _ ha' hb' h1
    omega
theorem p8_eq (l : Nat) : p8 l = 256 ^ l := rfl
theorem seqB_iff (l n l' n' : Nat) : seqB l n l' n' = true ↔ strB l n = strB l' n' := by
  unfold seqB
  rw [boolK_t, Nat.beq_eq, Nat.beq_eq]
  constructor
  · rintro ⟨rfl, h⟩
    apply strB_eq; rw [strB_data, ← digits_mod l n, ← digits_mod l n']
    congr 1
  · intro h
    have hs := congrArg ByteArray.size h
    simp at hs; subst hs
    refine ⟨rfl, ?_⟩
    have hd : digits l n = digits l n' := by rw [← strB_data, h, strB_data]
    have hp : 0 < 256 ^ l := Nat.pow_pos (by decide)
    exact digits_inj l _ _ (Nat.mod_lt _ hp) (Nat.mod_lt _ hp) (by
      show digits l (n % 256 ^ l) = digits l (n' % 256 ^ l)
      rw [digits_mod, digits_mod, hd])
theorem strB_append (l n l' n' : Nat) : strB l n ++ strB l' n' = strB (l + l') (n % p8 l + n' * p8 l) := by
  apply strB_eq
  rw [ByteArray.data_append, Array.toList_append, strB_data, strB_data]
  apply List.ext_getElem?; intro j
  rw [digits_get]
  have hp : 0 < 256 ^ l := Nat.pow_pos (by decide)
  have hm : n % 256 ^ l < 256 ^ l := Nat.mod_lt _ hp
  by_cases h : j < l
  · rw [List.getElem?_append_left (by simpa using h), digits_get, if_pos h, if_pos (by omega)]
    congr 2
    rw [p8_eq]
    rw [← digit_mod n l j h, ← digit_mod (n % 256 ^ l + n' * 256 ^ l) l j h, Nat.add_mul_mod_self_right, Nat.mod_mod]
  · rw [List.getElem?_append_right (by simpa using h), digits_length, digits_get]
    have h2 : (j - l < l') ↔ j < l + l' := by omega
    simp only [h2]
    split
    · congr 2
      rw [p8_eq]
      obtain ⟨d, rfl⟩ : ∃ d, j = l + d := ⟨j - l, by omega⟩
      rw [Nat.add_sub_cancel_left, Nat.pow_add, ← Nat.div_div_eq_div_mul, Nat.add_mul_div_right _ _ hp, Nat.div_eq_of_lt hm, Nat.zero_add]
    · rfl
theorem strB_extract (l n b h : Nat) (h1 : b ≤ h) (h2 : h ≤ l) : (strB l n).extract b h = strB (h - b) (n / p8 b % p8 (h - b)) := by
  apply strB_eq
  rw [ByteArray.data_extract, Array.toList_extract, strB_data, List.extract_eq_take_drop]
  apply List.ext_getElem?; intro j
  rw [digits_get, List.getElem?_take, List.getElem?_drop, digits_get]
  by_cases hj : j < h - b
  · rw [if_pos hj, if_pos hj, if_pos (by omega)]
    congr 2
    rw [p8_eq, p8_eq, digit_mod _ _ _ hj, Nat.div_div_eq_div_mul, Nat.pow_add]
  · rw [if_neg hj, if_neg hj]
theorem sbyte_get (l n j : Nat) (h : j < l) : (strB l n)[j]? = some (UInt8.ofNat (sbyte n j)) := by
  have h' : j < (strB l n).size := by simpa using h
  have h2 : j < (strB l n).data.toList.length := by rw [strB_data]; simpa using h
  have h3 : (strB l n).data.toList[j]? = some (UInt8.ofNat (sbyte n j)) := by rw [strB_data, digits_get, if_pos h]; rfl
  rw [List.getElem?_eq_getElem h2] at h3
  rw [getElem?_pos (strB l n) j h']
  exact h3
theorem sbyte_lt (n j : Nat) : sbyte n j < 256 := Nat.mod_lt _ (by decide)
end Go.Ev
