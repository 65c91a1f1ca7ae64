/- The hash of eight bytes, of one, of none: nothing is lost. No program in sight. -/
import Derived.Test.YtegmpejcolmnoaaXhL
import Derived.Test.YtegmpejcolmnoaaOctP
set_option linter.unusedVariables false
set_option linter.unusedSimpArgs false
namespace Go.Proofs.Ytegmpejcolmnoaa

theorem rot_bit (x : BitVec 64) (k : Nat) (hk : k < 64) (i : Nat) (hi : i < 64) : x.getLsbD i = (xrot x k).getLsbD (if i < 64 - k then i + k else i - (64 - k)) := by
  unfold xrot
  rw [BitVec.getLsbD_or, BitVec.getLsbD_shiftLeft, BitVec.getLsbD_ushiftRight]
  split
  · rw [BitVec.getLsbD_of_ge x (64 - k + (i + k)) (by omega)]
    simp
    omega
  · have h1 : i - (64 - k) < k := by omega
    have h2 : 64 - k + (i - (64 - k)) = i := by omega
    simp [h1, h2]
theorem rot_inj (k : Nat) (hk : k < 64) {x y : BitVec 64} : xrot x k = xrot y k ↔ x = y := by
  constructor
  · intro h
    apply BitVec.eq_of_getLsbD_eq
    intro i hi
    rw [rot_bit x k hk i hi, rot_bit y k hk i hi, h]
  · rintro rfl; rfl
theorem mul5_inj {x y : BitVec 64} : x * 2870177450012600261#64 = y * 2870177450012600261#64 ↔ x = y := mul_inj _ 14236653164957433613#64 (by decide)
theorem xstep8_inj {h x y : BitVec 64} : xstep8 h x = xstep8 h y ↔ x = y := by
  unfold xstep8
  rw [add_inj, mul1_inj, rot_inj 27 (by omega), xor_inj, xround_inj]
theorem sw_inj {x y : BitVec 8} : x.setWidth 64 = y.setWidth 64 ↔ x = y := by
  constructor
  · intro h
    have := congrArg (BitVec.setWidth 8) h
    simpa using this
  · rintro rfl; rfl
theorem xstep1_inj {h : BitVec 64} {x y : Byte} : xstep1 h x = xstep1 h y ↔ x = y := by
  unfold xstep1
  rw [mul1_inj, rot_inj 11 (by omega), xor_inj, mul5_inj, sw_inj]
theorem xword_bit (k : Nat) (n : BitVec 64) (i : Nat) (hi : i < 64) : (xword (oword k n)).getLsbD i = (decide (i < 8 * k) && n.getLsbD i) := by
  induction k generalizing n i with
  | zero => simp [oword, xword]
  | succ k ih =>
    rw [oword, xword, BitVec.getLsbD_or, BitVec.getLsbD_setWidth, BitVec.getLsbD_setWidth, BitVec.getLsbD_shiftLeft]
    by_cases h8 : i < 8
    · have : i < 8 * (k + 1) := by omega
      simp [h8, hi, this]
    · rw [ih (n >>> 8) (i - 8) (by omega), BitVec.getLsbD_ushiftRight, show 8 + (i - 8) = i by omega]
      have : (i - 8 < 8 * k) = (i < 8 * (k + 1)) := by rw [eq_iff_iff]; omega
      simp [h8, hi, this]
theorem xword_oword8 (n : BitVec 64) : xword (oword 8 n) = n := by
  apply BitVec.eq_of_getLsbD_eq
  intro i hi
  rw [xword_bit 8 n i hi]
  simp; omega
theorem xsum8 (s n : BitVec 64) : xsum s (oword 8 n) = xaval (xstep8 (s + 2870177450012600261#64 + 8#64) n) := by
  have hl := oword_len 8 n
  unfold xsum
  rw [if_neg (by omega), x8s_ge (by omega), x8s_lt (by rw [List.length_drop]; omega), List.take_of_length_le (by omega), List.drop_eq_nil_of_le (by omega), xword_oword8, hl]
  rfl
theorem xsum1 (s : BitVec 64) (c : Byte) : xsum s [c] = xaval (xstep1 (s + 2870177450012600261#64 + 1#64) c) := by
  unfold xsum
  rw [if_neg (by simp), x8s_lt (by simp)]
  rfl
theorem xsum0 (s : BitVec 64) : xsum s [] = xaval (s + 2870177450012600261#64 + 0#64) := by
  unfold xsum
  rw [if_neg (by simp), x8s_lt (by simp)]
  rfl
theorem xsum8_beq (s a b : BitVec 64) : (xsum s (oword 8 a) == xsum s (oword 8 b)) = (a == b) := beq_of_iff (by rw [xsum8, xsum8, xaval_inj, xstep8_inj])
theorem xsum1_beq (s : BitVec 64) (a b : Byte) : (xsum s [a] == xsum s [b]) = (a == b) := by
  rw [Bool.eq_iff_iff]; simp only [beq_iff_eq]; rw [xsum1, xsum1, xaval_inj, xstep1_inj]
theorem xsum0_beq (a b : BitVec 64) : (xsum a [] == xsum b []) = (a == b) := beq_of_iff (by rw [xsum0, xsum0, xaval_inj, add_inj, add_inj])
end Go.Proofs.Ytegmpejcolmnoaa
