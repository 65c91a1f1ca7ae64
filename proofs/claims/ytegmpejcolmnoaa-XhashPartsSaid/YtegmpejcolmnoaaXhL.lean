/- The hash's plain laws: nothing is lost. No program in sight. -/
import Derived.Test.YtegmpejcolmnoaaXhA
set_option linter.unusedVariables false
set_option linter.unusedSimpArgs false
namespace Go.Proofs.Ytegmpejcolmnoaa

theorem mul_inj (p q : BitVec 64) (h : p * q = 1#64) {x y : BitVec 64} : x * p = y * p ↔ x = y := by
  constructor
  · intro e
    have := congrArg (· * q) e
    simp only [BitVec.mul_assoc, h, BitVec.mul_one] at this
    exact this
  · rintro rfl; rfl
theorem mul1_inj {x y : BitVec 64} : x * 11400714785074694791#64 = y * 11400714785074694791#64 ↔ x = y := mul_inj _ 614540362697595703#64 (by decide)
theorem mul2_inj {x y : BitVec 64} : x * 14029467366897019727#64 = y * 14029467366897019727#64 ↔ x = y := mul_inj _ 839798700976720815#64 (by decide)
theorem mul3_inj {x y : BitVec 64} : x * 1609587929392839161#64 = y * 1609587929392839161#64 ↔ x = y := mul_inj _ 16855272203555305545#64 (by decide)
theorem add_inj {x y c : BitVec 64} : x + c = y + c ↔ x = y := by
  constructor
  · intro h; have := congrArg (· - c) h; simpa [BitVec.add_sub_cancel] using this
  · rintro rfl; rfl
theorem addl_inj {x y c : BitVec 64} : c + x = c + y ↔ x = y := by rw [BitVec.add_comm c x, BitVec.add_comm c y, add_inj]
theorem xor_inj {x y c : BitVec 64} : c ^^^ x = c ^^^ y ↔ x = y := by
  constructor
  · intro h; have := congrArg (c ^^^ ·) h; simpa [← BitVec.xor_assoc] using this
  · rintro rfl; rfl
theorem xs_big (x : BitVec 64) (k : Nat) (hk : 32 ≤ k) : (x ^^^ x >>> k) ^^^ (x ^^^ x >>> k) >>> k = x := by
  rw [BitVec.ushiftRight_xor_distrib, ← BitVec.shiftRight_add, show x >>> (k + k) = 0#64 from BitVec.ushiftRight_eq_zero (by omega)]
  simp [BitVec.xor_assoc]
theorem xs_inj (k : Nat) (hk : 32 ≤ k) {x y : BitVec 64} : x ^^^ x >>> k = y ^^^ y >>> k ↔ x = y := by
  constructor
  · intro h; rw [← xs_big x k hk, h, xs_big y k hk]
  · rintro rfl; rfl
theorem xs_29 (x : BitVec 64) : (x ^^^ x >>> 29) ^^^ (x ^^^ x >>> 29) >>> 29 ^^^ (x ^^^ x >>> 29) >>> 58 = x := by
  simp only [BitVec.ushiftRight_xor_distrib, ← BitVec.shiftRight_add]
  rw [show x >>> (29 + 58) = 0#64 from BitVec.ushiftRight_eq_zero (by omega)]
  apply BitVec.eq_of_getLsbD_eq
  intro i hi
  simp
theorem xs29_inj {x y : BitVec 64} : x ^^^ x >>> 29 = y ^^^ y >>> 29 ↔ x = y := by
  constructor
  · intro h; rw [← xs_29 x, h, xs_29 y]
  · rintro rfl; rfl
theorem rot31_bit (x : BitVec 64) (i : Nat) (hi : i < 64) : x.getLsbD i = (xrot x 31).getLsbD (if i < 33 then i + 31 else i - 33) := by
  unfold xrot
  rw [BitVec.getLsbD_or, BitVec.getLsbD_shiftLeft, BitVec.getLsbD_ushiftRight]
  split
  · rw [BitVec.getLsbD_of_ge x (64 - 31 + (i + 31)) (by omega)]
    simp
    omega
  · have h1 : i - 33 < 31 := by omega
    have h2 : 64 - 31 + (i - 33) = i := by omega
    simp [h1, h2]
theorem rot31_inj {x y : BitVec 64} : xrot x 31 = xrot y 31 ↔ x = y := by
  constructor
  · intro h
    apply BitVec.eq_of_getLsbD_eq
    intro i hi
    rw [rot31_bit x i hi, rot31_bit y i hi, h]
  · rintro rfl; rfl
theorem xaval_inj {x y : BitVec 64} : xaval x = xaval y ↔ x = y := by
  unfold xaval
  rw [xs_inj 32 (by omega)]
  unfold xaval2
  rw [mul3_inj, xs29_inj]
  unfold xaval1
  rw [mul2_inj, xs_inj 33 (by omega)]
theorem xround_inj {a x y : BitVec 64} : xround a x = xround a y ↔ x = y := by
  unfold xround
  rw [mul1_inj, rot31_inj, addl_inj, mul2_inj]
theorem xround_injl {a b x : BitVec 64} : xround a x = xround b x ↔ a = b := by
  unfold xround
  rw [mul1_inj, rot31_inj, add_inj]
theorem xmerge_inj {a x y : BitVec 64} : xmerge a x = xmerge a y ↔ x = y := by
  unfold xmerge
  rw [add_inj, mul1_inj, xor_inj, xround_inj]
theorem beq_of_iff {x y a b : BitVec 64} (h : x = y ↔ a = b) : (x == y) = (a == b) := by
  rw [Bool.eq_iff_iff]; simpa using h
theorem xlow_bit (a : BitVec 64) (k i : Nat) (hi : i < 64) : (xlow a k).getLsbD i = (a.getLsbD i && decide (i < k)) := by
  unfold xlow
  rw [all64, BitVec.getLsbD_and, BitVec.getLsbD_not, BitVec.getLsbD_shiftLeft, BitVec.getLsbD_allOnes]
  by_cases h : i < k
  · simp [h, hi]
  · have : i - k < 64 := by omega
    simp [h, hi, this]
theorem low_high (a : BitVec 64) (k : Nat) (hk : k ≤ 64) : (xhigh a k) <<< (64 - k) ||| xlow a (64 - k) = a := by
  apply BitVec.eq_of_getLsbD_eq
  intro i hi
  rw [BitVec.getLsbD_or, BitVec.getLsbD_shiftLeft, xlow_bit a _ i hi]
  unfold xhigh
  rw [BitVec.getLsbD_ushiftRight]
  by_cases h : i < 64 - k
  · simp [h, hi]
  · have : 64 - k + (i - (64 - k)) = i := by omega
    simp [h, hi, this]
theorem xlow_0 (a : BitVec 64) : xlow a 0 = 0#64 := by
  apply BitVec.eq_of_getLsbD_eq
  intro i hi
  rw [xlow_bit a 0 i hi]; simp
theorem xhigh_64 (a : BitVec 64) : xhigh a 64 = a := by unfold xhigh; simp
theorem xhigh_0 (a : BitVec 64) : xhigh a 0 = 0#64 := by unfold xhigh; exact BitVec.ushiftRight_eq_zero (by omega)
end Go.Proofs.Ytegmpejcolmnoaa
