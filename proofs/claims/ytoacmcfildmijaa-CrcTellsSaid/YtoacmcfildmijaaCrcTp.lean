/- CrcTells, in plain Lean: a change of up to four bytes; the xor of three byte strings. -/
import Derived.Test.YtoacmcfildmijaaCrcT
set_option linter.unusedVariables false
set_option linter.unusedSimpArgs false
namespace Go.Proofs.Ytoacmcfildmijaa

def dby (d : BitVec 32) (i : Nat) : Byte := (d >>> (8 * i)).setWidth 8
/-- The bytes from k on, i of them, changed. -/
def chg (l0 : List Byte) (k : Nat) (d : BitVec 32) (i : Nat) : List Byte := l0.mapIdx fun j x => if k ≤ j ∧ j < k + i then x ^^^ dby d (j - k) else x
theorem chg_length (l0 : List Byte) (k : Nat) (d : BitVec 32) (i : Nat) : (chg l0 k d i).length = l0.length := by simp [chg]
theorem chg_get (l0 : List Byte) (k : Nat) (d : BitVec 32) (i j : Nat) (h : j < (chg l0 k d i).length) : (chg l0 k d i)[j] = if k ≤ j ∧ j < k + i then l0[j]'(by rw [chg_length] at h; exact h) ^^^ dby d (j - k) else l0[j]'(by rw [chg_length] at h; exact h) := by
  simp [chg]
theorem chg_zero (l0 : List Byte) (k : Nat) (d : BitVec 32) : chg l0 k d 0 = l0 := by
  apply List.ext_getElem
  · simp [chg]
  · intro j h1 h2
    rw [chg_get, if_neg (by omega)]
theorem chg_at (l0 : List Byte) (k : Nat) (d : BitVec 32) (i : Nat) (h : k + i < l0.length) : (chg l0 k d i)[k + i]'(by rw [chg_length]; exact h) = l0[k + i] := by
  rw [chg_get, if_neg (by omega)]
theorem chg_set (l0 : List Byte) (k : Nat) (d : BitVec 32) (i : Nat) (h : k + i < l0.length) : (chg l0 k d i).set (k + i) (l0[k + i] ^^^ dby d i) = chg l0 k d (i + 1) := by
  apply List.ext_getElem
  · simp [chg]
  · intro j h1 h2
    rw [List.getElem_set]
    by_cases e : k + i = j
    · subst e
      rw [if_pos rfl, chg_get, if_pos (by omega)]
      simp only [Nat.add_sub_cancel_left]
    · rw [if_neg e, chg_get, chg_get]
      by_cases hk : k ≤ j ∧ j < k + i
      · rw [if_pos hk, if_pos (by omega)]
      · rw [if_neg hk, if_neg (by omega)]
theorem xors_chg (l0 : List Byte) (k : Nat) (d : BitVec 32) (m : Nat) (h : k + m ≤ l0.length) : xors (chg l0 k d m) l0 = List.replicate k 0#8 ++ (List.range m).map (dby d) ++ List.replicate (l0.length - k - m) 0#8 := by
  apply List.ext_getElem
  · simp [xors, chg]; omega
  · intro j h1 h2
    simp only [xors, List.getElem_zipWith, chg_get]
    by_cases hk : j < k
    · rw [if_neg (by omega), BitVec.xor_self, List.getElem_append_left (by simp; omega), List.getElem_append_left (by simpa using hk)]
      simp
    · by_cases hm : j < k + m
      · rw [if_pos (by omega), List.getElem_append_left (by simp; omega), List.getElem_append_right (by simp; omega)]
        simp only [List.length_replicate, List.getElem_map, List.getElem_range]
        rw [BitVec.xor_comm, ← BitVec.xor_assoc, BitVec.xor_self, BitVec.zero_xor]
      · rw [if_neg (by omega), BitVec.xor_self, List.getElem_append_right (by simp; omega)]
        simp
theorem sum_chg (l0 : List Byte) (k : Nat) (d : BitVec 32) (m : Nat) (h : k + m ≤ l0.length) (hm : m ≤ 4) : crcSum (chg l0 k d m) = crcSum l0 ↔ ∀ i, i < m → dby d i = 0#8 := by
  rw [crcSum_eq _ _ (chg_length _ _ _ _), xors_chg l0 k d m h, fold_change _ _ _ (by simpa using hm)]
  simp
/-- Has one of the first i bytes of the change a bit? -/
def some8 (d : BitVec 32) (i : Nat) : Bool := (List.range i).any fun j => dby d j != 0#8
theorem some8_zero (d : BitVec 32) : some8 d 0 = false := rfl
theorem some8_succ (d : BitVec 32) (i : Nat) : some8 d (i + 1) = (some8 d i || dby d i != 0#8) := by simp [some8, List.range_succ]
theorem sum_chgB (l0 : List Byte) (k : Nat) (d : BitVec 32) (m : Nat) (h : k + m ≤ l0.length) (hm : m ≤ 4) : (crcSum (chg l0 k d m) == crcSum l0) = !some8 d m := by
  rw [Bool.eq_iff_iff]
  simp only [beq_iff_eq, sum_chg l0 k d m h hm, some8, Bool.not_eq_true', List.any_eq_false, List.mem_range, bne_iff_ne, ne_eq, Classical.not_not]
def three (a b c : List Byte) (n : Nat) : List Byte := xors (xors (a.take n) (b.take n)) (c.take n)
theorem three_zero (a b c : List Byte) : three a b c 0 = [] := by simp [three, xors]
theorem three_length (a b c : List Byte) (n : Nat) (ha : n ≤ a.length) (hb : n ≤ b.length) (hc : n ≤ c.length) : (three a b c n).length = n := by simp [three, xors]; omega
theorem three_succ (a b c : List Byte) (n : Nat) (ha : n < a.length) (hb : n < b.length) (hc : n < c.length) : three a b c (n + 1) = three a b c n ++ [a[n] ^^^ b[n] ^^^ c[n]] := by
  unfold three
  rw [List.take_succ_eq_append_getElem ha, List.take_succ_eq_append_getElem hb, List.take_succ_eq_append_getElem hc]
  unfold xors
  rw [List.zipWith_append (by simp; omega), List.zipWith_append (by simp; omega)]
  rfl
theorem three_sum (a b c : List Byte) (n : Nat) (ha : n ≤ a.length) (hb : n ≤ b.length) (hc : n ≤ c.length) : crcSum (a.take n) ^^^ crcSum (b.take n) ^^^ crcSum (c.take n) = crcSum (three a b c n) :=
  (crcSum_three _ _ _ (by simp; omega) (by simp; omega)).symm

end Go.Proofs.Ytoacmcfildmijaa
