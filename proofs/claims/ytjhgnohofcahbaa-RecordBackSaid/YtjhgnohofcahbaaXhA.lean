/- The walks through the hash's small functions. -/
import Derived.Test.YtjhgnohofcahbaaXhP
set_option linter.unusedVariables false
set_option linter.unusedSimpArgs false
namespace Go.Proofs.Ytjhgnohofcahbaa
open Go.ChangeShapes Go.WideShapes Go.ChangeAt Go.RowKit

attribute [local go_sem] wrap_addl64 wrap_mull64 wrap_add64 wrap_mul64 wrap_subl64 bits_xor64 bits_or64 BitVec.setWidth_eq nb_shr_29 nb_shr_32 nb_shr_33 nb_nonneg nb_lt64 wrap_shl nb_shrk
set_option maxRecDepth 100000 in
set_option maxHeartbeats 400000 in
theorem bits_rot (x : BitVec 64) (k : Nat) (z : Int) (hz : z = k) (hk : k < 64) (w : World) : Calls Try.prog 81 #[.int .u64 (nb x), .int .i64 z] w fun e w' => e = .returned (.int .u64 (nb (xrot x k))) ∧ w = w' := by
  subst hz
  have h1 := and63 k hk
  have h2 := sub64 k (by omega)
  go_enter Try.func81, Try.ntmps81
  go_wp2
  go_ret
  exact ⟨by simp [go_sem, xrot, h2], rfl⟩
set_option maxRecDepth 100000 in
set_option maxHeartbeats 400000 in
theorem xh_Round (a x : BitVec 64) (w : World) : Calls Try.prog 79 #[.int .u64 (nb a), .int .u64 (nb x)] w fun e w' => e = .returned (.int .u64 (nb (xround a x))) ∧ w = w' := by
  go_enter Try.func79, Try.ntmps79
  go_wp2_with fail
  refine (bits_rot _ 31 _ rfl (by decide) _).mono ?_
  rintro e w1 ⟨rfl, rfl⟩
  go_wp2
  go_ret
  exact ⟨by simp [go_sem, xround], rfl⟩
theorem xh_Round0 (x : BitVec 64) (w : World) : Calls Try.prog 79 #[.int .u64 0, .int .u64 (nb x)] w fun e w' => e = .returned (.int .u64 (nb (xround 0#64 x))) ∧ w = w' := xh_Round 0#64 x w
set_option maxRecDepth 100000 in
set_option maxHeartbeats 400000 in
theorem xh_Merge (h a : BitVec 64) (w : World) : Calls Try.prog 82 #[.int .u64 (nb h), .int .u64 (nb a)] w fun e w' => e = .returned (.int .u64 (nb (xmerge h a))) ∧ w = w' := by
  go_enter Try.func82, Try.ntmps82
  go_wp2_with fail
  refine (xh_Round0 _ _).mono ?_
  rintro e w1 ⟨rfl, rfl⟩
  go_wp2
  go_ret
  exact ⟨by simp [go_sem, xmerge], rfl⟩
set_option maxRecDepth 100000 in
set_option maxHeartbeats 400000 in
theorem xh_Avalanche (x : BitVec 64) (w : World) : Calls Try.prog 83 #[.int .u64 (nb x)] w fun e w' => e = .returned (.int .u64 (nb (xaval x))) ∧ w = w' := by
  go_enter Try.func83, Try.ntmps83
  go_wp2
  go_ret
  exact ⟨by simp [go_sem, xaval, xaval1, xaval2], rfl⟩
theorem xclip_le (n : Int) : xclip n ≤ 64 := by unfold xclip; omega
theorem all64 : 18446744073709551615#64 = BitVec.allOnes 64 := by decide
theorem andNot_low (h : BitVec 64) (k : Nat) : bits .andNot .u64 (nb h) (IntKind.u64.wrap (18446744073709551615 * 2 ^ k)) = nb (xlow h k) := by
  have h1 : (18446744073709551615 : Int) = nb 18446744073709551615#64 := by decide
  rw [h1, wrap_shl]
  unfold xlow nb
  rw [u64_andNot_nat _ _ h.isLt (BitVec.isLt _), BitVec.toNat_and, BitVec.toNat_not]
theorem low_mod (h : BitVec 64) (k : Nat) (hk : k < 64) : (nb h).tmod (2 ^ k) = nb (xlow h k) := by
  rw [Int.tmod_eq_emod_of_nonneg (nb_nonneg h)]
  unfold nb xlow
  rw [all64, show ((2 : Int) ^ k) = ((2 ^ k : Nat) : Int) by push_cast; rfl, ← Int.natCast_emod]
  congr 1
  apply Nat.eq_of_testBit_eq
  intro i
  rw [Nat.testBit_mod_two_pow, BitVec.testBit_toNat, BitVec.testBit_toNat, BitVec.getLsbD_and, BitVec.getLsbD_not, BitVec.getLsbD_shiftLeft, BitVec.getLsbD_allOnes]
  by_cases h64 : i < 64
  · by_cases hik : i < k
    · simp [hik, h64]
    · have : i - k < 64 := by omega
      simp [hik, h64, this]
  · simp [BitVec.getLsbD_of_ge h i (by omega)]
theorem low_all (h : BitVec 64) : xlow h 64 = h := by unfold xlow; rw [show 18446744073709551615#64 <<< 64 = 0#64 from by decide, BitVec.not_zero, BitVec.and_allOnes]
end Go.Proofs.Ytjhgnohofcahbaa
