/- The walks through the hash's small functions. -/
import Derived.Test.YtegmpejcolmnoaaXhP
set_option linter.unusedVariables false
set_option linter.unusedSimpArgs false
namespace Go.Proofs.Ytegmpejcolmnoaa
open Go.ChangeShapes Go.WideShapes Go.ChangeAt Go.RowKit

attribute [local go_sem] wrap_addl64 wrap_mull64 wrap_add64 wrap_mul64 wrap_subl64 bits_xor64 bits_or64 BitVec.setWidth_eq nb_shr_29 nb_shr_32 nb_shr_33 nb_nonneg nb_lt64 wrap_shl nb_shrk
set_option maxRecDepth 100000 in
set_option maxHeartbeats 400000 in
theorem bits_rot (x : BitVec 64) (k : Nat) (z : Int) (hz : z = k) (hk : k < 64) (w : World) : Calls Try.prog 49 #[.int .u64 (nb x), .int .i64 z] w fun e w' => e = .returned (.int .u64 (nb (xrot x k))) ∧ w = w' := by
  subst hz
  have h1 := and63 k hk
  have h2 := sub64 k (by omega)
  go_enter Try.func49, Try.ntmps49
  go_wp2
  go_ret
  exact ⟨by simp [go_sem, xrot, h2], rfl⟩
set_option maxRecDepth 100000 in
set_option maxHeartbeats 400000 in
theorem ref_rot (x : BitVec 64) (k : Nat) (z : Int) (hz : z = k) (hk : k < 64) (w : World) : Calls Try.prog 51 #[.int .u64 (nb x), .int .u64 z] w fun e w' => e = .returned (.int .u64 (nb (xrot x k))) ∧ w = w' := by
  subst hz
  have h2 := sub64 k (by omega)
  go_enter Try.func51, Try.ntmps51
  go_wp2
  go_ret
  exact ⟨by simp [go_sem, xrot, h2], rfl⟩
set_option maxRecDepth 100000 in
set_option maxHeartbeats 400000 in
theorem xh_Round (a x : BitVec 64) (w : World) : Calls Try.prog 18 #[.int .u64 (nb a), .int .u64 (nb x)] w fun e w' => e = .returned (.int .u64 (nb (xround a x))) ∧ w = w' := by
  go_enter Try.func18, Try.ntmps18
  go_wp2_with fail
  refine (bits_rot _ 31 _ rfl (by decide) _).mono ?_
  rintro e w1 ⟨rfl, rfl⟩
  go_wp2
  go_ret
  exact ⟨by simp [go_sem, xround], rfl⟩
set_option maxRecDepth 100000 in
set_option maxHeartbeats 400000 in
theorem ref_Round (a x : BitVec 64) (w : World) : Calls Try.prog 19 #[.int .u64 (nb a), .int .u64 (nb x)] w fun e w' => e = .returned (.int .u64 (nb (xround a x))) ∧ w = w' := by
  go_enter Try.func19, Try.ntmps19
  go_wp2_with fail
  refine (ref_rot _ 31 _ rfl (by decide) _).mono ?_
  rintro e w1 ⟨rfl, rfl⟩
  go_wp2
  go_ret
  exact ⟨by simp [go_sem, xround], rfl⟩
theorem xh_Round0 (x : BitVec 64) (w : World) : Calls Try.prog 18 #[.int .u64 0, .int .u64 (nb x)] w fun e w' => e = .returned (.int .u64 (nb (xround 0#64 x))) ∧ w = w' := xh_Round 0#64 x w
theorem ref_Round0 (x : BitVec 64) (w : World) : Calls Try.prog 19 #[.int .u64 0, .int .u64 (nb x)] w fun e w' => e = .returned (.int .u64 (nb (xround 0#64 x))) ∧ w = w' := ref_Round 0#64 x w
set_option maxRecDepth 100000 in
set_option maxHeartbeats 400000 in
theorem xh_Merge (h a : BitVec 64) (w : World) : Calls Try.prog 20 #[.int .u64 (nb h), .int .u64 (nb a)] w fun e w' => e = .returned (.int .u64 (nb (xmerge h a))) ∧ w = w' := by
  go_enter Try.func20, Try.ntmps20
  go_wp2_with fail
  refine (xh_Round0 _ _).mono ?_
  rintro e w1 ⟨rfl, rfl⟩
  go_wp2
  go_ret
  exact ⟨by simp [go_sem, xmerge], rfl⟩
set_option maxRecDepth 100000 in
set_option maxHeartbeats 400000 in
theorem ref_Merge (h a : BitVec 64) (w : World) : Calls Try.prog 21 #[.int .u64 (nb h), .int .u64 (nb a)] w fun e w' => e = .returned (.int .u64 (nb (xmerge h a))) ∧ w = w' := by
  go_enter Try.func21, Try.ntmps21
  go_wp2_with fail
  refine (ref_Round0 _ _).mono ?_
  rintro e w1 ⟨rfl, rfl⟩
  go_wp2
  go_ret
  exact ⟨by simp [go_sem, xmerge], rfl⟩
set_option maxRecDepth 100000 in
set_option maxHeartbeats 400000 in
theorem xh_Avalanche (x : BitVec 64) (w : World) : Calls Try.prog 22 #[.int .u64 (nb x)] w fun e w' => e = .returned (.int .u64 (nb (xaval x))) ∧ w = w' := by
  go_enter Try.func22, Try.ntmps22
  go_wp2
  go_ret
  exact ⟨by simp [go_sem, xaval, xaval1, xaval2], rfl⟩
set_option maxRecDepth 100000 in
set_option maxHeartbeats 400000 in
theorem ref_Avalanche (x : BitVec 64) (w : World) : Calls Try.prog 23 #[.int .u64 (nb x)] w fun e w' => e = .returned (.int .u64 (nb (xaval x))) ∧ w = w' := by
  go_enter Try.func23, Try.ntmps23
  go_wp2
  go_ret
  exact ⟨by simp [go_sem, xaval, xaval1, xaval2], rfl⟩

theorem xclip_le (n : Int) : xclip n ≤ 64 := by unfold xclip; omega
set_option maxRecDepth 100000 in
set_option maxHeartbeats 400000 in
theorem xh_clip (n : Int) (w : World) : Calls Try.prog 52 #[.int .i64 n] w fun e w' => e = .returned (.int .u64 (xclip n : Nat)) ∧ w = w' := by
  obtain ⟨m, h1, h2⟩ : ∃ m : Int, (∀ (ts : Array TypeId) (t : TypeId) (W : World), (Builtin.max_ ts t #[.int .i64 0, .int .i64 n]).run Try.prog W = .ok (.int .i64 m) W) ∧ ∀ (ts : Array TypeId) (t : TypeId) (W : World), (Builtin.min_ ts t #[.int .i64 64, .int .i64 m]).run Try.prog W = .ok (.int .i64 (xclip n : Nat)) W := by
    refine ⟨max 0 n, fun ts t W => ?_, fun ts t W => ?_⟩
    · rw [run_max_int2]; congr 2; split <;> omega
    · rw [run_min_int2]; congr 2; unfold xclip; split <;> omega
  have h3 := xclip_le n
  generalize xclip n = k at *
  go_enter Try.func52, Try.ntmps52
  go_wp2
  go_ret
  exact ⟨by simp, rfl⟩
set_option maxRecDepth 100000 in
set_option maxHeartbeats 400000 in
theorem ref_bits (n : Int) (w : World) : Calls Try.prog 53 #[.int .i64 n] w fun e w' => e = .returned (.int .u64 (xclip n : Nat)) ∧ w = w' := by
  obtain ⟨m, h1, h2⟩ : ∃ m : Int, (∀ (ts : Array TypeId) (t : TypeId) (W : World), (Builtin.min_ ts t #[.int .i64 n, .int .i64 64]).run Try.prog W = .ok (.int .i64 m) W) ∧ ∀ (ts : Array TypeId) (t : TypeId) (W : World), (Builtin.max_ ts t #[.int .i64 0, .int .i64 m]).run Try.prog W = .ok (.int .i64 (xclip n : Nat)) W := by
    refine ⟨min n 64, fun ts t W => ?_, fun ts t W => ?_⟩
    · rw [run_min_int2]; congr 2; split <;> omega
    · rw [run_max_int2]; congr 2; unfold xclip; split <;> omega
  have h3 := xclip_le n
  generalize xclip n = k at *
  go_enter Try.func53, Try.ntmps53
  go_wp2
  go_ret
  exact ⟨by simp, rfl⟩

theorem all64 : 18446744073709551615#64 = BitVec.allOnes 64 := by decide
theorem andNot_low (h : BitVec 64) (k : Nat) : bits .andNot .u64 (nb h) (IntKind.u64.wrap (18446744073709551615 * 2 ^ k)) = nb (xlow h k) := by
  have h1 : (18446744073709551615 : Int) = nb 18446744073709551615#64 := by decide
  rw [h1, wrap_shl]
  unfold xlow nb
  rw [u64_andNot_nat _ _ h.isLt (BitVec.isLt _), BitVec.toNat_and, BitVec.toNat_not]
theorem low_mod (h : BitVec 64) (k : Nat) (hk : k < 64) : (nb h).tmod (2 ^ k) = nb (xlow h k) := by
  rw [Int.tmod_eq_emod_of_nonneg (nb_nonneg h)]
  unfold nb xlow
  rw [all64, show ((2 : Int) ^ k) = ((2 ^ k : Nat) : Int) by push_cast; rfl, ← Int.natCast_emod]
  congr 1
  apply Nat.eq_of_testBit_eq
  intro i
  rw [Nat.testBit_mod_two_pow, BitVec.testBit_toNat, BitVec.testBit_toNat, BitVec.getLsbD_and, BitVec.getLsbD_not, BitVec.getLsbD_shiftLeft, BitVec.getLsbD_allOnes]
  by_cases h64 : i < 64
  · by_cases hik : i < k
    · simp [hik, h64]
    · have : i - k < 64 := by omega
      simp [hik, h64, this]
  · simp [BitVec.getLsbD_of_ge h i (by omega)]
theorem low_all (h : BitVec 64) : xlow h 64 = h := by unfold xlow; rw [show 18446744073709551615#64 <<< 64 = 0#64 from by decide, BitVec.not_zero, BitVec.and_allOnes]
set_option maxRecDepth 100000 in
set_option maxHeartbeats 400000 in
theorem xh_Low (h : BitVec 64) (n : Int) (w : World) : Calls Try.prog 24 #[.int .u64 (nb h), .int .i64 n] w fun e w' => e = .returned (.int .u64 (nb (xlow h (xclip n)))) ∧ w = w' := by
  have hc := xh_clip n
  have h3 := xclip_le n
  have HC := Lib.hid hc
  clear hc
  generalize xclip n = k at *
  have ha := andNot_low h k
  go_enter Try.func24, Try.ntmps24
  go_wp2_with fail
  refine (HC.out _).mono ?_
  rintro e w1 ⟨rfl, rfl⟩
  go_wp2
  go_ret
  exact ⟨rfl, rfl⟩
set_option maxRecDepth 100000 in
set_option maxHeartbeats 400000 in
theorem xh_High (h : BitVec 64) (n : Int) (w : World) : Calls Try.prog 26 #[.int .u64 (nb h), .int .i64 n] w fun e w' => e = .returned (.int .u64 (nb (xhigh h (xclip n)))) ∧ w = w' := by
  have hc := xh_clip n
  have h3 := xclip_le n
  have HC := Lib.hid hc
  clear hc
  generalize xclip n = k at *
  have h2 := sub64 k (by omega)
  go_enter Try.func26, Try.ntmps26
  go_wp2_with fail
  refine (HC.out _).mono ?_
  rintro e w1 ⟨rfl, rfl⟩
  go_wp2
  go_ret
  exact ⟨by simp [go_sem, xhigh, h2], rfl⟩
set_option maxRecDepth 100000 in
set_option maxHeartbeats 400000 in
theorem ref_High (h : BitVec 64) (n : Int) (w : World) : Calls Try.prog 27 #[.int .u64 (nb h), .int .i64 n] w fun e w' => e = .returned (.int .u64 (nb (xhigh h (xclip n)))) ∧ w = w' := by
  have hc := ref_bits n
  have h3 := xclip_le n
  have HC := Lib.hid hc
  clear hc
  generalize xclip n = k at *
  have h2 := sub64 k (by omega)
  go_enter Try.func27, Try.ntmps27
  go_wp2_with fail
  refine (HC.out _).mono ?_
  rintro e w1 ⟨rfl, rfl⟩
  go_wp2
  go_ret
  exact ⟨by simp [go_sem, xhigh, h2], rfl⟩
set_option maxRecDepth 100000 in
set_option maxHeartbeats 400000 in
theorem ref_Low (h : BitVec 64) (n : Int) (w : World) : Calls Try.prog 25 #[.int .u64 (nb h), .int .i64 n] w fun e w' => e = .returned (.int .u64 (nb (xlow h (xclip n)))) ∧ w = w' := by
  have hc := ref_bits n
  have h3 := xclip_le n
  have HC := Lib.hid hc
  clear hc
  generalize xclip n = k at *
  by_cases hk : k = 64
  · subst hk
    go_enter Try.func25, Try.ntmps25
    go_wp2_with fail
    refine (HC.out _).mono ?_
    rintro e w1 ⟨rfl, rfl⟩
    go_wp2
    go_ret
    exact ⟨by rw [low_all]; rfl, rfl⟩
  · have hp : (0 : Int) < 2 ^ k := Int.pow_pos (by decide)
    have hq : ((2 : Int) ^ k == 0) = false := beq_eq_false_iff_ne.2 (by omega)
    have hw : IntKind.u64.wrap (2 ^ k) = 2 ^ k := by
      rw [wrap_u64]; exact Int.emod_eq_of_lt (by omega) (by have h6 : (2 : Nat) ^ k < 2 ^ 64 := Nat.pow_lt_pow_right (by omega) (by omega); rw [show ((2 : Int) ^ k) = ((2 ^ k : Nat) : Int) by push_cast; rfl]; omega)
    have hm := low_mod h k (by omega)
    have h4 : k < 64 := by omega
    have h5 : ((k : Int) == 64) = false := beq_eq_false_iff_ne.2 (by omega)
    clear hk
    go_enter Try.func25, Try.ntmps25
    go_wp2_with fail
    refine (HC.out _).mono ?_
    rintro e w1 ⟨rfl, rfl⟩
    go_wp2_with fail
    refine (HC.out _).mono ?_
    rintro e w1 ⟨rfl, rfl⟩
    go_wp2
    go_ret
    exact ⟨rfl, rfl⟩
end Go.Proofs.Ytegmpejcolmnoaa
