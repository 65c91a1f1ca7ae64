/- the reference of layer 8, plain: Read. -/
import Derived.Test.YtjhgnohofcahbaaRsG
set_option linter.unusedVariables false
set_option linter.unusedSimpArgs false
namespace Go.Proofs.Ytjhgnohofcahbaa
open Go.ChangeShapes Go.WideShapes Go.ChangeAt Go.RowKit
set_option maxRecDepth 100000

theorem xword_lt (xs : List Byte) (h : xs.length ≤ 7) : (xword xs).toNat < 2 ^ (8 * xs.length) := by
  induction xs with
  | nil => simp [xword]
  | cons x xs ih =>
    have := ih (by simp at h; omega)
    rw [xword, BitVec.toNat_or]
    refine Nat.or_lt_two_pow ?_ ?_
    · rw [BitVec.toNat_setWidth]
      refine Nat.lt_of_le_of_lt (Nat.mod_le _ _) (Nat.lt_of_lt_of_le x.isLt (Nat.pow_le_pow_right (by omega) (by rw [List.length_cons]; omega)))
    · rw [BitVec.toNat_shiftLeft]
      refine Nat.lt_of_le_of_lt (Nat.mod_le _ _) ?_
      rw [Nat.shiftLeft_eq, List.length_cons, show 8 * (xs.length + 1) = 8 * xs.length + 8 from by omega, Nat.pow_add]
      exact Nat.mul_lt_mul_of_pos_right this (by simp)
theorem rdN_lt (b : List Byte) : rdN b < 4294967296 := by
  unfold rdN
  have hl : (b.take 4).length ≤ 4 := by rw [List.length_take]; omega
  have := xword_lt (b.take 4) (by omega)
  exact Nat.lt_of_lt_of_le this (Nat.pow_le_pow_right (by omega) (show 8 * (b.take 4).length ≤ 32 by omega))
/-- How many bits the reference takes. -/
def rdM (b : List Byte) : Nat := min (min (rdN b) (8 * (b.length - 4))) 4096
theorem rdU_succ (b : List Byte) (j : Nat) : rdU b (j + 1) = rdU b j ++ [((b.drop 4).getD (j / 8) 0#8).getLsbD (j % 8)] := by simp [rdU, List.range_succ]
/-- What the reference returns. -/
def rsRead (b : List Byte) : Int × List Bool × Int :=
  if spOk (rdN b) (rdU b (rdM b)) = true ∧ spBytes (rdN b) (rdU b (rdM b)) = b then ((rdN b : Int), rdU b (rdM b), 0) else (0, [], 4)
theorem rsRead_eq (b : List Byte) (h4 : 4 ≤ b.length) : rsRead b = spRead b := by
  unfold rsRead spRead
  by_cases h : spOk (rdN b) (rdU b (rdM b)) = true ∧ spBytes (rdN b) (rdU b (rdM b)) = b
  · have o := spOk_iff.1 h.1
    rw [rdU_len] at o
    have hM : rdM b = rdN b := by omega
    have hl := congrArg List.length h.2
    rw [spBytes_len, rdU_len, hM] at hl
    rw [if_pos h]
    rw [hM] at h ⊢
    rw [if_pos ⟨h4, by omega, by omega, hl.symm, h.1, h.2⟩]
  · rw [if_neg h, if_neg]
    rintro ⟨-, h8, h9, hl, ho, hb⟩
    have hM : rdM b = rdN b := by unfold rdM; omega
    rw [hM] at h
    exact h ⟨ho, hb⟩
theorem bit_mod (r : Nat) (h : r < 8) (x : BitVec 8) : ((nb x / (2 : Int) ^ r) % 2 == 1) = x.getLsbD r := by
  have h1 : (2 : Int) ^ r = ((2 ^ r : Nat) : Int) := by simp
  rw [h1, nb_shr]
  have h2 : ∀ (r : Fin 8) (x : BitVec 8), (((x >>> r.1).toNat : Int) % 2 == 1) = x.getLsbD r.1 := by decide
  exact h2 ⟨r, h⟩ x
theorem bit_tmod (r : Nat) (h : r < 8) (x : BitVec 8) : ((nb x / (2 : Int) ^ r).tmod 2 == 1) = x.getLsbD r := by
  rw [Int.tmod_eq_emod_of_nonneg (Int.ediv_nonneg (nb_nonneg x) (Int.le_of_lt (Int.pow_pos (by omega))))]
  exact bit_mod r h x
end Go.Proofs.Ytjhgnohofcahbaa
