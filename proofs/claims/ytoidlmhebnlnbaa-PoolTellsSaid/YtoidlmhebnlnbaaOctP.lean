/- Numbers and words as bytes, in plain Lean. No program in sight. -/
import Derived.Test.YtoidlmhebnlnbaaM
set_option linter.unusedVariables false
set_option linter.unusedSimpArgs false
namespace Go.Proofs.Ytoidlmhebnlnbaa

/-- A number's bytes: seven bits each, the lowest first. -/
def onum (n : BitVec 64) : List Byte :=
  if h : 128#64 ≤ n then (n.setWidth 8 ||| 128#8) :: onum (n >>> 7) else [n.setWidth 8]
termination_by n.toNat
decreasing_by
  have : 128 ≤ n.toNat := by simpa [BitVec.le_def] using h
  rw [BitVec.toNat_ushiftRight, Nat.shiftRight_eq_div_pow]
  omega
theorem onum_ge {n : BitVec 64} (h : 128#64 ≤ n) : onum n = (n.setWidth 8 ||| 128#8) :: onum (n >>> 7) := by
  conv => lhs; unfold onum
  rw [dif_pos h]
theorem onum_lt {n : BitVec 64} (h : ¬ 128#64 ≤ n) : onum n = [n.setWidth 8] := by
  conv => lhs; unfold onum
  rw [dif_neg h]
theorem onum_len_pos (n : BitVec 64) : 1 ≤ (onum n).length := by
  by_cases h : 128#64 ≤ n
  · rw [onum_ge h]; simp
  · rw [onum_lt h]; simp
theorem onum_len (k : Nat) (n : BitVec 64) (h : n.toNat < 2 ^ (7 * (k + 1))) : (onum n).length ≤ k + 1 := by
  induction k generalizing n with
  | zero => rw [onum_lt (by simp [BitVec.le_def]; omega)]; simp
  | succ k ih =>
    by_cases hn : 128#64 ≤ n
    · rw [onum_ge hn]
      have := ih (n >>> 7) (by
        rw [BitVec.toNat_ushiftRight, Nat.shiftRight_eq_div_pow]
        apply Nat.div_lt_of_lt_mul
        rw [← Nat.pow_add]
        exact Nat.lt_of_lt_of_eq h (by congr 1; omega))
      simp; omega
    · rw [onum_lt hn]; simp
theorem onum_len10 (n : BitVec 64) : (onum n).length ≤ 10 := onum_len 9 n (Nat.lt_of_lt_of_le n.isLt (Nat.pow_le_pow_right (by omega) (by omega)))
/-- A word's lowest bytes, the lowest first. -/
def oword : Nat → BitVec 64 → List Byte
  | 0, _ => []
  | k + 1, n => n.setWidth 8 :: oword k (n >>> 8)
theorem oword_len (k : Nat) (n : BitVec 64) : (oword k n).length = k := by
  induction k generalizing n with
  | zero => rfl
  | succ k ih => simp [oword, ih]
theorem oword_succ (k : Nat) (n : BitVec 64) : oword (k + 1) n = oword k n ++ [(n >>> (8 * k)).setWidth 8] := by
  induction k generalizing n with
  | zero => simp [oword]
  | succ k ih =>
    rw [oword, ih, oword, List.cons_append]
    congr 3
    rw [show 8 * (k + 1) = 8 + 8 * k by omega, BitVec.shiftRight_add]
/-- What Word lays down. -/
def owordZ (z : Int) (n : BitVec 64) : List Byte := if z = 2 then oword 2 n else if z = 4 then oword 4 n else if z = 8 then oword 8 n else []
def oblock (x : List Byte) : List Byte := onum (BitVec.ofNat 64 x.length) ++ x

/-- The count of bytes that a slice's length is. -/
theorem len64 (n : Nat) (h : n ≤ 9223372036854775807) : nb (BitVec.ofNat 64 n) = (n : Int) := nb_ofNat n (by omega)

end Go.Proofs.Ytoidlmhebnlnbaa
