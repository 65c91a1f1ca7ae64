/- Walks and laws that the claim's last text stands on, several texts in one file: A, M, CrcP, CrcT, OctP. Under the hypotheses that each theorem states. -/
import Derived.WalkKit
import Derived.Test.YtoidlmhebnlnbaaDoorChecked
import Derived.ProofKit
import Derived.KernelRfl
import Derived.Lib.Hide
import Derived.OwnWalk
import Derived.Maps.AppendAt
import Derived.Deep.AppendSrc
import Derived.Lib.SlBytesConst
import Derived.Deep.QuietTactic
import Derived.BigQuiet
import Derived.Deep.RegionHeld3
import Derived.Deep.RegionWith
import Derived.Deep.RegionLaw
/- Numbers of Go's unsigned kinds as bit vectors: the operations of the model, said on BitVec. No program in sight. -/
set_option linter.unusedVariables false
set_option linter.unusedSimpArgs false
namespace Go.Proofs.YtoidlmhebnlnbaaDoor

/-- A bit vector as the number that a value of an unsigned kind holds. A plain definition: the walk's simp does not open it. -/
def nb {n : Nat} (x : BitVec n) : Int := (x.toNat : Int)

theorem nb_nonneg {n : Nat} (x : BitVec n) : 0 ≤ nb x := by unfold nb; omega
theorem nb_lt {n : Nat} (x : BitVec n) : nb x < 2 ^ n := by
  unfold nb
  have h := x.isLt
  rw [show ((2 : Int) ^ n) = ((2 ^ n : Nat) : Int) from by push_cast; rfl]
  omega
theorem nb_lt8 (x : BitVec 8) : nb x < 256 := nb_lt x
theorem nb_le8 (x : BitVec 8) : nb x ≤ 255 := by have := nb_lt x; simp at this; omega
theorem nb_lt16 (x : BitVec 16) : nb x < 65536 := nb_lt x
theorem nb_lt32 (x : BitVec 32) : nb x < 4294967296 := nb_lt x
theorem nb_lt64 (x : BitVec 64) : nb x < 18446744073709551616 := nb_lt x
theorem nb_neg {n : Nat} (x : BitVec n) : (nb x < 0) = False := by have := nb_nonneg x; simp; omega
theorem nb_inj {n : Nat} {x y : BitVec n} : nb x = nb y ↔ x = y := by
  unfold nb
  constructor
  · intro h; exact BitVec.eq_of_toNat_eq (by omega)
  · rintro rfl; rfl
theorem nb_beq {n : Nat} (x y : BitVec n) : (nb x == nb y) = (x == y) := by
  rw [Bool.eq_iff_iff]; simp [nb_inj]
theorem nb_bne {n : Nat} (x y : BitVec n) : (nb x != nb y) = (x != y) := by
  rw [Bool.eq_iff_iff]; simp [nb_inj]
theorem nb_lt_nb {n : Nat} (x y : BitVec n) : (nb x < nb y) = (x < y) := by
  unfold nb; simp [BitVec.lt_def]
theorem nb_le_nb {n : Nat} (x y : BitVec n) : (nb x ≤ nb y) = (x ≤ y) := by
  unfold nb; simp [BitVec.le_def]
theorem nb_toNat {n : Nat} (x : BitVec n) : (nb x).toNat = x.toNat := by unfold nb; simp
theorem nb_cast {n : Nat} (x : BitVec n) : ((x.toNat : Nat) : Int) = nb x := rfl
theorem nb_ofNat {n : Nat} (k : Nat) (h : k < 2 ^ n) : nb (BitVec.ofNat n k) = (k : Int) := by
  unfold nb; rw [BitVec.toNat_ofNat, Nat.mod_eq_of_lt h]
theorem nb_ofInt {n : Nat} (k : Int) (h0 : 0 ≤ k) (h : k < 2 ^ n) : nb (BitVec.ofInt n k) = k := by
  unfold nb
  rw [BitVec.toNat_ofInt, Int.toNat_of_nonneg (Int.emod_nonneg _ (by have := Nat.two_pow_pos n; omega))]
  exact Int.emod_eq_of_lt h0 (by exact_mod_cast h)

theorem nb_lit {n : Nat} (k : Nat) (h : k < 2 ^ n) : (no_index (OfNat.ofNat k) : Int) = nb (BitVec.ofNat n k) := (nb_ofNat k h).symm
theorem nb_beql {n : Nat} (x : BitVec n) (k : Nat) (h : k < 2 ^ n) : (nb x == (no_index (OfNat.ofNat k) : Int)) = (x == BitVec.ofNat n k) := by
  rw [nb_lit k h, nb_beq]
theorem nb_bnel {n : Nat} (x : BitVec n) (k : Nat) (h : k < 2 ^ n) : (nb x != (no_index (OfNat.ofNat k) : Int)) = (x != BitVec.ofNat n k) := by
  rw [nb_lit k h, nb_bne]
theorem nb_beq1 {n : Nat} (x : BitVec n) (h : 1 < 2 ^ n) : (nb x == 1) = (x == 1#n) := nb_beql x 1 h
theorem nb_beq0 {n : Nat} (x : BitVec n) : (nb x == 0) = (x == 0#n) := nb_beql x 0 (Nat.two_pow_pos n)
theorem nb_bne0 {n : Nat} (x : BitVec n) : (nb x != 0) = (x != 0#n) := nb_bnel x 0 (Nat.two_pow_pos n)

theorem nb_zero {n : Nat} : nb (0#n) = 0 := by simp [nb]

/-! ### widths -/
theorem nb_setWidth {m n : Nat} (x : BitVec m) (h : m ≤ n) : nb (x.setWidth n) = nb x := by
  unfold nb
  rw [BitVec.toNat_setWidth, Nat.mod_eq_of_lt (Nat.lt_of_lt_of_le x.isLt (Nat.pow_le_pow_right (by omega) h))]
theorem nb_mod8 {m : Nat} (x : BitVec m) : nb x % 256 = nb (x.setWidth 8) := by
  unfold nb; rw [BitVec.toNat_setWidth]; omega
theorem nb_mod16 {m : Nat} (x : BitVec m) : nb x % 65536 = nb (x.setWidth 16) := by
  unfold nb; rw [BitVec.toNat_setWidth]; omega
theorem nb_mod32 {m : Nat} (x : BitVec m) : nb x % 4294967296 = nb (x.setWidth 32) := by
  unfold nb; rw [BitVec.toNat_setWidth]; omega

/-! ### shifts right by a constant: the model divides -/
theorem nb_shr {n : Nat} (x : BitVec n) (k : Nat) : nb x / (2 ^ k : Nat) = nb (x >>> k) := by
  unfold nb; rw [BitVec.toNat_ushiftRight, Nat.shiftRight_eq_div_pow]; omega
theorem nb_shr_1 {n : Nat} (x : BitVec n) : nb x / (2 : Int) = nb (x >>> 1) := nb_shr x 1
theorem nb_shr_2 {n : Nat} (x : BitVec n) : nb x / (4 : Int) = nb (x >>> 2) := nb_shr x 2
theorem nb_shr_3 {n : Nat} (x : BitVec n) : nb x / (8 : Int) = nb (x >>> 3) := nb_shr x 3
theorem nb_shr_4 {n : Nat} (x : BitVec n) : nb x / (16 : Int) = nb (x >>> 4) := nb_shr x 4
theorem nb_shr_5 {n : Nat} (x : BitVec n) : nb x / (32 : Int) = nb (x >>> 5) := nb_shr x 5
theorem nb_shr_6 {n : Nat} (x : BitVec n) : nb x / (64 : Int) = nb (x >>> 6) := nb_shr x 6
theorem nb_shr_7 {n : Nat} (x : BitVec n) : nb x / (128 : Int) = nb (x >>> 7) := nb_shr x 7
theorem nb_shr_8 {n : Nat} (x : BitVec n) : nb x / (256 : Int) = nb (x >>> 8) := nb_shr x 8
theorem nb_shr_9 {n : Nat} (x : BitVec n) : nb x / (512 : Int) = nb (x >>> 9) := nb_shr x 9
theorem nb_shr_10 {n : Nat} (x : BitVec n) : nb x / (1024 : Int) = nb (x >>> 10) := nb_shr x 10
theorem nb_shr_11 {n : Nat} (x : BitVec n) : nb x / (2048 : Int) = nb (x >>> 11) := nb_shr x 11
theorem nb_shr_12 {n : Nat} (x : BitVec n) : nb x / (4096 : Int) = nb (x >>> 12) := nb_shr x 12
theorem nb_shr_13 {n : Nat} (x : BitVec n) : nb x / (8192 : Int) = nb (x >>> 13) := nb_shr x 13
theorem nb_shr_14 {n : Nat} (x : BitVec n) : nb x / (16384 : Int) = nb (x >>> 14) := nb_shr x 14
theorem nb_shr_15 {n : Nat} (x : BitVec n) : nb x / (32768 : Int) = nb (x >>> 15) := nb_shr x 15
theorem nb_shr_16 {n : Nat} (x : BitVec n) : nb x / (65536 : Int) = nb (x >>> 16) := nb_shr x 16
theorem nb_shr_17 {n : Nat} (x : BitVec n) : nb x / (131072 : Int) = nb (x >>> 17) := nb_shr x 17
theorem nb_shr_18 {n : Nat} (x : BitVec n) : nb x / (262144 : Int) = nb (x >>> 18) := nb_shr x 18
theorem nb_shr_19 {n : Nat} (x : BitVec n) : nb x / (524288 : Int) = nb (x >>> 19) := nb_shr x 19
theorem nb_shr_20 {n : Nat} (x : BitVec n) : nb x / (1048576 : Int) = nb (x >>> 20) := nb_shr x 20
theorem nb_shr_21 {n : Nat} (x : BitVec n) : nb x / (2097152 : Int) = nb (x >>> 21) := nb_shr x 21
theorem nb_shr_22 {n : Nat} (x : BitVec n) : nb x / (4194304 : Int) = nb (x >>> 22) := nb_shr x 22
theorem nb_shr_23 {n : Nat} (x : BitVec n) : nb x / (8388608 : Int) = nb (x >>> 23) := nb_shr x 23
theorem nb_shr_24 {n : Nat} (x : BitVec n) : nb x / (16777216 : Int) = nb (x >>> 24) := nb_shr x 24
theorem nb_shr_25 {n : Nat} (x : BitVec n) : nb x / (33554432 : Int) = nb (x >>> 25) := nb_shr x 25
theorem nb_shr_26 {n : Nat} (x : BitVec n) : nb x / (67108864 : Int) = nb (x >>> 26) := nb_shr x 26
theorem nb_shr_27 {n : Nat} (x : BitVec n) : nb x / (134217728 : Int) = nb (x >>> 27) := nb_shr x 27
theorem nb_shr_28 {n : Nat} (x : BitVec n) : nb x / (268435456 : Int) = nb (x >>> 28) := nb_shr x 28
theorem nb_shr_29 {n : Nat} (x : BitVec n) : nb x / (536870912 : Int) = nb (x >>> 29) := nb_shr x 29
theorem nb_shr_30 {n : Nat} (x : BitVec n) : nb x / (1073741824 : Int) = nb (x >>> 30) := nb_shr x 30
theorem nb_shr_31 {n : Nat} (x : BitVec n) : nb x / (2147483648 : Int) = nb (x >>> 31) := nb_shr x 31
theorem nb_shr_32 {n : Nat} (x : BitVec n) : nb x / (4294967296 : Int) = nb (x >>> 32) := nb_shr x 32
theorem nb_shr_33 {n : Nat} (x : BitVec n) : nb x / (8589934592 : Int) = nb (x >>> 33) := nb_shr x 33
theorem nb_shr_34 {n : Nat} (x : BitVec n) : nb x / (17179869184 : Int) = nb (x >>> 34) := nb_shr x 34
theorem nb_shr_35 {n : Nat} (x : BitVec n) : nb x / (34359738368 : Int) = nb (x >>> 35) := nb_shr x 35
theorem nb_shr_36 {n : Nat} (x : BitVec n) : nb x / (68719476736 : Int) = nb (x >>> 36) := nb_shr x 36
theorem nb_shr_37 {n : Nat} (x : BitVec n) : nb x / (137438953472 : Int) = nb (x >>> 37) := nb_shr x 37
theorem nb_shr_38 {n : Nat} (x : BitVec n) : nb x / (274877906944 : Int) = nb (x >>> 38) := nb_shr x 38
theorem nb_shr_39 {n : Nat} (x : BitVec n) : nb x / (549755813888 : Int) = nb (x >>> 39) := nb_shr x 39
theorem nb_shr_40 {n : Nat} (x : BitVec n) : nb x / (1099511627776 : Int) = nb (x >>> 40) := nb_shr x 40
theorem nb_shr_41 {n : Nat} (x : BitVec n) : nb x / (2199023255552 : Int) = nb (x >>> 41) := nb_shr x 41
theorem nb_shr_42 {n : Nat} (x : BitVec n) : nb x / (4398046511104 : Int) = nb (x >>> 42) := nb_shr x 42
theorem nb_shr_43 {n : Nat} (x : BitVec n) : nb x / (8796093022208 : Int) = nb (x >>> 43) := nb_shr x 43
theorem nb_shr_44 {n : Nat} (x : BitVec n) : nb x / (17592186044416 : Int) = nb (x >>> 44) := nb_shr x 44
theorem nb_shr_45 {n : Nat} (x : BitVec n) : nb x / (35184372088832 : Int) = nb (x >>> 45) := nb_shr x 45
theorem nb_shr_46 {n : Nat} (x : BitVec n) : nb x / (70368744177664 : Int) = nb (x >>> 46) := nb_shr x 46
theorem nb_shr_47 {n : Nat} (x : BitVec n) : nb x / (140737488355328 : Int) = nb (x >>> 47) := nb_shr x 47
theorem nb_shr_48 {n : Nat} (x : BitVec n) : nb x / (281474976710656 : Int) = nb (x >>> 48) := nb_shr x 48
theorem nb_shr_49 {n : Nat} (x : BitVec n) : nb x / (562949953421312 : Int) = nb (x >>> 49) := nb_shr x 49
theorem nb_shr_50 {n : Nat} (x : BitVec n) : nb x / (1125899906842624 : Int) = nb (x >>> 50) := nb_shr x 50
theorem nb_shr_51 {n : Nat} (x : BitVec n) : nb x / (2251799813685248 : Int) = nb (x >>> 51) := nb_shr x 51
theorem nb_shr_52 {n : Nat} (x : BitVec n) : nb x / (4503599627370496 : Int) = nb (x >>> 52) := nb_shr x 52
theorem nb_shr_53 {n : Nat} (x : BitVec n) : nb x / (9007199254740992 : Int) = nb (x >>> 53) := nb_shr x 53
theorem nb_shr_54 {n : Nat} (x : BitVec n) : nb x / (18014398509481984 : Int) = nb (x >>> 54) := nb_shr x 54
theorem nb_shr_55 {n : Nat} (x : BitVec n) : nb x / (36028797018963968 : Int) = nb (x >>> 55) := nb_shr x 55
theorem nb_shr_56 {n : Nat} (x : BitVec n) : nb x / (72057594037927936 : Int) = nb (x >>> 56) := nb_shr x 56
theorem nb_shr_57 {n : Nat} (x : BitVec n) : nb x / (144115188075855872 : Int) = nb (x >>> 57) := nb_shr x 57
theorem nb_shr_58 {n : Nat} (x : BitVec n) : nb x / (288230376151711744 : Int) = nb (x >>> 58) := nb_shr x 58
theorem nb_shr_59 {n : Nat} (x : BitVec n) : nb x / (576460752303423488 : Int) = nb (x >>> 59) := nb_shr x 59
theorem nb_shr_60 {n : Nat} (x : BitVec n) : nb x / (1152921504606846976 : Int) = nb (x >>> 60) := nb_shr x 60
theorem nb_shr_61 {n : Nat} (x : BitVec n) : nb x / (2305843009213693952 : Int) = nb (x >>> 61) := nb_shr x 61
theorem nb_shr_62 {n : Nat} (x : BitVec n) : nb x / (4611686018427387904 : Int) = nb (x >>> 62) := nb_shr x 62
theorem nb_shr_63 {n : Nat} (x : BitVec n) : nb x / (9223372036854775808 : Int) = nb (x >>> 63) := nb_shr x 63
theorem nb_mod2 {n : Nat} (x : BitVec n) : nb x % 2 = nb (x &&& 1#n) := by
  unfold nb; rw [BitVec.toNat_and, BitVec.toNat_ofNat]
  cases n with
  | zero => have := x.isLt; simp at this; simp [this]
  | succ n => rw [Nat.mod_eq_of_lt (by have := Nat.two_pow_pos n; rw [Nat.pow_succ]; omega), Nat.and_one_is_mod]; omega

theorem nb_tmod2 {n : Nat} (x : BitVec n) : (nb x).tmod 2 = nb (x &&& 1#n) := by
  rw [Int.tmod_eq_emod_of_nonneg (nb_nonneg x), nb_mod2]

/-! ### sums, differences, products of the kind u64 -/
theorem wrap_u64 (x : Int) : IntKind.u64.wrap x = x % 18446744073709551616 := IntKind.wrap_u64 x
theorem wrap_add64 (a b : BitVec 64) : IntKind.u64.wrap (nb a + nb b) = nb (a + b) := by
  rw [wrap_u64]; unfold nb; rw [BitVec.toNat_add]; omega
theorem wrap_mul64 (a b : BitVec 64) : IntKind.u64.wrap (nb a * nb b) = nb (a * b) := by
  rw [wrap_u64]; unfold nb; rw [BitVec.toNat_mul, Int.natCast_emod, Int.natCast_mul]; rfl
theorem wrap_sub64 (a b : BitVec 64) : IntKind.u64.wrap (nb a - nb b) = nb (a - b) := by
  rw [wrap_u64]; unfold nb; rw [BitVec.toNat_sub]; have := a.isLt; have := b.isLt; omega
theorem lit64 (n : Nat) (h : n < 18446744073709551616) : ((no_index (OfNat.ofNat n) : Nat) : Int) = nb (BitVec.ofNat 64 n) := by
  rw [nb_ofNat _ h]; rfl
theorem lit64' (n : Nat) (h : n < 18446744073709551616) : (no_index (OfNat.ofNat n) : Int) = nb (BitVec.ofNat 64 n) := by
  rw [nb_ofNat _ h]; rfl
theorem wrap_addl64 (a : BitVec 64) (n : Nat) (h : n < 18446744073709551616) : IntKind.u64.wrap (nb a + (no_index (OfNat.ofNat n) : Int)) = nb (a + BitVec.ofNat 64 n) := by
  rw [lit64' n h, wrap_add64]
theorem wrap_mull64 (a : BitVec 64) (n : Nat) (h : n < 18446744073709551616) : IntKind.u64.wrap (nb a * (no_index (OfNat.ofNat n) : Int)) = nb (a * BitVec.ofNat 64 n) := by
  rw [lit64' n h, wrap_mul64]
theorem wrap_subl64 (a : BitVec 64) (n : Nat) (h : n < 18446744073709551616) : IntKind.u64.wrap (nb a - (no_index (OfNat.ofNat n) : Int)) = nb (a - BitVec.ofNat 64 n) := by
  rw [lit64' n h, wrap_sub64]

/-! ### bitwise -/
theorem bits_raw64 (op : Nat → Nat → Nat) (f : BitVec 64 → BitVec 64 → BitVec 64) (hf : ∀ a b, (f a b).toNat = op a.toNat b.toNat) {m k : Nat} (a : BitVec m) (b : BitVec k) (hm : m ≤ 64) (hk : k ≤ 64) :
    ((op a.toNat b.toNat : Nat) : Int) = nb (f (a.setWidth 64) (b.setWidth 64)) := by
  unfold nb
  rw [hf, BitVec.toNat_setWidth, BitVec.toNat_setWidth, Nat.mod_eq_of_lt (Nat.lt_of_lt_of_le a.isLt (Nat.pow_le_pow_right (by omega) hm)),
    Nat.mod_eq_of_lt (Nat.lt_of_lt_of_le b.isLt (Nat.pow_le_pow_right (by omega) hk))]
theorem toNat_lt_of {m : Nat} (a : BitVec m) {n : Nat} (h : m ≤ n) : a.toNat < 2 ^ n := Nat.lt_of_lt_of_le a.isLt (Nat.pow_le_pow_right (by omega) h)
theorem bits_xor64 {m k : Nat} (a : BitVec m) (b : BitVec k) (hm : m ≤ 64) (hk : k ≤ 64) : bits .xor .u64 (nb a) (nb b) = nb (a.setWidth 64 ^^^ b.setWidth 64) := by
  unfold nb
  rw [u64_xor_nat _ _ (toNat_lt_of a hm) (toNat_lt_of b hk)]
  exact bits_raw64 (· ^^^ ·) (· ^^^ ·) (fun a b => BitVec.toNat_xor a b) a b hm hk
theorem bits_or64 {m k : Nat} (a : BitVec m) (b : BitVec k) (hm : m ≤ 64) (hk : k ≤ 64) : bits .or .u64 (nb a) (nb b) = nb (a.setWidth 64 ||| b.setWidth 64) := by
  unfold nb
  rw [u64_or_nat _ _ (toNat_lt_of a hm) (toNat_lt_of b hk)]
  exact bits_raw64 (· ||| ·) (· ||| ·) (fun a b => BitVec.toNat_or a b) a b hm hk
theorem bits_and64 {m k : Nat} (a : BitVec m) (b : BitVec k) (hm : m ≤ 64) (hk : k ≤ 64) : bits .and .u64 (nb a) (nb b) = nb (a.setWidth 64 &&& b.setWidth 64) := by
  unfold nb
  rw [u64_and_nat _ _ (toNat_lt_of a hm) (toNat_lt_of b hk)]
  exact bits_raw64 (· &&& ·) (· &&& ·) (fun a b => BitVec.toNat_and a b) a b hm hk
theorem bits_xor32 {m k : Nat} (a : BitVec m) (b : BitVec k) (hm : m ≤ 32) (hk : k ≤ 32) : bits .xor .u32 (nb a) (nb b) = nb (a.setWidth 32 ^^^ b.setWidth 32) := by
  unfold nb
  rw [u32_xor_nat _ _ (toNat_lt_of a hm) (toNat_lt_of b hk), BitVec.toNat_xor, BitVec.toNat_setWidth, BitVec.toNat_setWidth, Nat.mod_eq_of_lt (toNat_lt_of a hm), Nat.mod_eq_of_lt (toNat_lt_of b hk)]
theorem bits_and32 {m k : Nat} (a : BitVec m) (b : BitVec k) (hm : m ≤ 32) (hk : k ≤ 32) : bits .and .u32 (nb a) (nb b) = nb (a.setWidth 32 &&& b.setWidth 32) := by
  unfold nb
  rw [u32_and_nat _ _ (toNat_lt_of a hm) (toNat_lt_of b hk), BitVec.toNat_and, BitVec.toNat_setWidth, BitVec.toNat_setWidth, Nat.mod_eq_of_lt (toNat_lt_of a hm), Nat.mod_eq_of_lt (toNat_lt_of b hk)]
theorem bits_or32 {m k : Nat} (a : BitVec m) (b : BitVec k) (hm : m ≤ 32) (hk : k ≤ 32) : bits .or .u32 (nb a) (nb b) = nb (a.setWidth 32 ||| b.setWidth 32) := by
  unfold nb
  rw [u32_or_nat _ _ (toNat_lt_of a hm) (toNat_lt_of b hk), BitVec.toNat_or, BitVec.toNat_setWidth, BitVec.toNat_setWidth, Nat.mod_eq_of_lt (toNat_lt_of a hm), Nat.mod_eq_of_lt (toNat_lt_of b hk)]
theorem bits_xor8 (a b : BitVec 8) : bits .xor .u8 (nb a) (nb b) = nb (a ^^^ b) := by
  unfold nb; rw [u8_xor_nat _ _ a.isLt b.isLt, BitVec.toNat_xor]
theorem bits_and8 (a b : BitVec 8) : bits .and .u8 (nb a) (nb b) = nb (a &&& b) := by
  unfold nb; rw [u8_and_nat _ _ a.isLt b.isLt, BitVec.toNat_and]
theorem bits_or8 (a b : BitVec 8) : bits .or .u8 (nb a) (nb b) = nb (a ||| b) := by
  unfold nb; rw [u8_or_nat _ _ a.isLt b.isLt, BitVec.toNat_or]
theorem bits_and8l (a : BitVec 8) (n : Nat) (h : n < 256) : bits .and .u8 (nb a) (no_index (OfNat.ofNat n) : Int) = nb (a &&& BitVec.ofNat 8 n) := by
  rw [← bits_and8, nb_ofNat _ h]; rfl
theorem bits_or8l (a : BitVec 8) (n : Nat) (h : n < 256) : bits .or .u8 (nb a) (no_index (OfNat.ofNat n) : Int) = nb (a ||| BitVec.ofNat 8 n) := by
  rw [← bits_or8, nb_ofNat _ h]; rfl
theorem bits_and32l (a : BitVec 32) (n : Nat) (h : n < 4294967296) : bits .and .u32 (nb a) (no_index (OfNat.ofNat n) : Int) = nb (a &&& BitVec.ofNat 32 n) := by
  have := bits_and32 a (BitVec.ofNat 32 n) (Nat.le_refl _) (Nat.le_refl _)
  rw [nb_ofNat _ h, BitVec.setWidth_eq, BitVec.setWidth_eq] at this
  exact this
theorem bits_xor32l (a : BitVec 32) (n : Nat) (h : n < 4294967296) : bits .xor .u32 (nb a) (no_index (OfNat.ofNat n) : Int) = nb (a ^^^ BitVec.ofNat 32 n) := by
  have := bits_xor32 a (BitVec.ofNat 32 n) (Nat.le_refl _) (Nat.le_refl _)
  rw [nb_ofNat _ h, BitVec.setWidth_eq, BitVec.setWidth_eq] at this
  exact this
theorem bits_not32 (a : BitVec 32) : bits .xor .u32 IntKind.u32.max (nb a) = nb (~~~ a) := by
  have h : IntKind.u32.max = nb (BitVec.allOnes 32) := by decide
  rw [h, bits_xor32 _ _ (Nat.le_refl _) (Nat.le_refl _), BitVec.setWidth_eq, BitVec.setWidth_eq, BitVec.allOnes_xor]
theorem bits_not64 (a : BitVec 64) : bits .xor .u64 IntKind.u64.max (nb a) = nb (~~~ a) := by
  have h : IntKind.u64.max = nb (BitVec.allOnes 64) := by decide
  rw [h, bits_xor64 _ _ (Nat.le_refl _) (Nat.le_refl _), BitVec.setWidth_eq, BitVec.setWidth_eq, BitVec.allOnes_xor]

/-- What the walk's simp is given, file by file: 'attribute [local go_sem] ..'. -/
theorem setWidth_self {n : Nat} (x : BitVec n) : x.setWidth n = x := BitVec.setWidth_eq x

end Go.Proofs.YtoidlmhebnlnbaaDoor
/- Memory: what a slice reads as; a row of the call's own; append onto it, from whatever source. -/
set_option linter.unusedVariables false
set_option linter.unusedSimpArgs false
namespace Go.Proofs.YtoidlmhebnlnbaaDoor
open Go.RowKit

abbrev Byte := BitVec 8
/-- A byte as a value. -/
def vb (x : Byte) : Value := .int .u8 (nb x)
def vbs (xs : List Byte) : List Value := xs.map vb
theorem vbs_length (xs : List Byte) : (vbs xs).length = xs.length := by simp [vbs]
theorem vbs_append (xs ys : List Byte) : vbs (xs ++ ys) = vbs xs ++ vbs ys := by simp [vbs]
theorem vbs_nil : vbs [] = [] := rfl
theorem vbs_one (x : Byte) : vbs [x] = [vb x] := rfl
theorem vbs_oneCell (xs : List Byte) : ∀ u ∈ vbs xs, u.oneCell' = true := by
  intro u hu
  simp only [vbs, List.mem_map] at hu
  obtain ⟨x, _, rfl⟩ := hu
  rfl
theorem vbs_get (xs : List Byte) (i : Nat) (h : i < xs.length) : (vbs xs)[i]'(by rw [vbs_length]; exact h) = vb xs[i] := by simp [vbs]
theorem vbs_get? (xs : List Byte) (i : Nat) (h : i < xs.length) : (vbs xs)[i]? = some (vb xs[i]) := by simp [vbs, h]
theorem vbs_take (xs : List Byte) (n : Nat) : vbs (xs.take n) = (vbs xs).take n := by simp [vbs, List.map_take]
theorem vbs_drop (xs : List Byte) (n : Nat) : vbs (xs.drop n) = (vbs xs).drop n := by simp [vbs, List.map_drop]

/-- From address A on the cells hold these values. (No cell: whatever A is.) -/
def RdV (w : World) (A : Option Addr) (vs : List Value) : Prop :=
  ∀ i, (h : i < vs.length) → ∃ b o, A = some ⟨b, o, none⟩ ∧ w.cell? ⟨b, o + i, none⟩ = some vs[i]
/-- From address A on the cells hold these bytes. -/
def Rd (w : World) (A : Option Addr) (xs : List Byte) : Prop := RdV w A (vbs xs)

theorem RdV.nil (w : World) (A : Option Addr) : RdV w A [] := fun i h => by simp at h
theorem Rd.nil (w : World) (A : Option Addr) : Rd w A [] := RdV.nil w A
theorem RdV.form {w : World} {A : Option Addr} {vs : List Value} (h : RdV w A vs) (hx : 0 < vs.length) :
    ∃ b o, A = some ⟨b, o, none⟩ ∧ b < w.heap.size ∧ ∀ i, (hi : i < vs.length) → w.cell? ⟨b, o + i, none⟩ = some vs[i] := by
  obtain ⟨b, o, rfl, hc⟩ := h 0 hx
  refine ⟨b, o, rfl, World.block_lt_of_cell? w _ hc, fun i hi => ?_⟩
  obtain ⟨b', o', e, hc'⟩ := h i hi
  simp only [Option.some.injEq, Addr.mk.injEq, and_true] at e
  obtain ⟨rfl, rfl⟩ := e
  exact hc'
theorem Rd.form {w : World} {A : Option Addr} {xs : List Byte} (h : Rd w A xs) (hx : 0 < xs.length) :
    ∃ b o, A = some ⟨b, o, none⟩ ∧ b < w.heap.size ∧ ∀ i, (hi : i < xs.length) → w.cell? ⟨b, o + i, none⟩ = some (vb xs[i]) := by
  obtain ⟨b, o, h1, h2, h3⟩ := RdV.form h (by rw [vbs_length]; exact hx)
  refine ⟨b, o, h1, h2, fun i hi => ?_⟩
  have := h3 i (by rw [vbs_length]; exact hi)
  rw [vbs_get xs i hi] at this
  exact this
/-- What stands at the known addresses of a block. -/
theorem RdV.of {w : World} {b o : Nat} {vs : List Value} (h : ∀ i, (hi : i < vs.length) → w.cell? ⟨b, o + i, none⟩ = some vs[i]) : RdV w (some ⟨b, o, none⟩) vs := fun i hi => ⟨b, o, rfl, h i hi⟩
theorem RdV.move {w w' : World} {A : Option Addr} {vs : List Value} (h : RdV w A vs) (hk : ∀ a v, A.map (·.block) = some a.block → w.cell? a = some v → w'.cell? a = some v) : RdV w' A vs := fun i hi => by
  obtain ⟨b, o, rfl, hc⟩ := h i hi
  exact ⟨b, o, rfl, hk _ _ rfl hc⟩
theorem RdV.below {w w' : World} {A : Option Addr} {vs : List Value} (h : RdV w A vs) (hb : Below w.heap.size w w') : RdV w' A vs :=
  h.move fun a _ _ hc => (hb.cell (World.block_lt_of_cell? w a hc)).trans hc
theorem Rd.below {w w' : World} {A : Option Addr} {xs : List Byte} (h : Rd w A xs) (hb : Below w.heap.size w w') : Rd w' A xs := RdV.below h hb
theorem RdV.alloc {w : World} {A : Option Addr} {vs : List Value} (h : RdV w A vs) (o : Obj) : RdV (w.alloc o) A vs := h.below ((Below.refl _ _).alloc (Nat.le_refl _) o)
theorem Rd.alloc {w : World} {A : Option Addr} {xs : List Byte} (h : Rd w A xs) (o : Obj) : Rd (w.alloc o) A xs := RdV.alloc h o
theorem RdV.drew {w : World} {A : Option Addr} {vs : List Value} (h : RdV w A vs) : RdV w.drew A vs := h
theorem Rd.drew {w : World} {A : Option Addr} {xs : List Byte} (h : Rd w A xs) : Rd w.drew A xs := h
theorem RdV.take {w : World} {A : Option Addr} {vs : List Value} (h : RdV w A vs) (n : Nat) : RdV w A (vs.take n) := fun i hi => by
  simp only [List.length_take] at hi
  obtain ⟨b, o, rfl, hc⟩ := h i (by omega)
  exact ⟨b, o, rfl, by simpa using hc⟩
theorem Rd.take {w : World} {A : Option Addr} {xs : List Byte} (h : Rd w A xs) (n : Nat) : Rd w A (xs.take n) := by
  unfold Rd; rw [vbs_take]; exact RdV.take h n
theorem RdV.drop {w : World} {b o : Nat} {vs : List Value} (h : RdV w (some ⟨b, o, none⟩) vs) (n : Nat) : RdV w (some ⟨b, o + n, none⟩) (vs.drop n) := fun i hi => by
  simp only [List.length_drop] at hi
  obtain ⟨b', o', e, hc⟩ := h (n + i) (by omega)
  simp only [Option.some.injEq, Addr.mk.injEq, and_true] at e
  obtain ⟨rfl, rfl⟩ := e
  exact ⟨b, o + n, rfl, by simpa [Nat.add_assoc] using hc⟩
theorem Rd.drop {w : World} {b o : Nat} {xs : List Byte} (h : Rd w (some ⟨b, o, none⟩) xs) (n : Nat) : Rd w (some ⟨b, o + n, none⟩) (xs.drop n) := by
  unfold Rd; rw [vbs_drop]; exact RdV.drop h n
/-- A new block reads as its cells. -/
theorem RdV.lit (w : World) (vs : List Value) (t : TypeId) {g : Nat} (hg : g = w.heap.size := by simp) : RdV (w.alloc (.cells vs.toArray t)) (some ⟨g, 0, none⟩) vs := fun i hi => by
  subst hg
  refine ⟨w.heap.size, 0, rfl, ?_⟩
  rw [cell_of_row _ _ _ vs.toArray t (0, 0) (heap_alloc_new _ _)]
  simp [hi]
/-- The same of a row that bears a mark behind its last cell ('[]byte("..")'). -/
theorem RdV.litF (w : World) (vs : List Value) (t : TypeId) (fr : Nat × Nat) {g : Nat} (hg : g = w.heap.size := by simp) : RdV (w.alloc (.cells vs.toArray t fr)) (some ⟨g, 0, none⟩) vs := fun i hi => by
  subst hg
  refine ⟨w.heap.size, 0, rfl, ?_⟩
  rw [cell_of_row _ _ _ vs.toArray t fr (heap_alloc_new _ _)]
  simp [hi]
theorem RdV.adds {w : World} {ad : Addr} {vs : List Value} (h : RdV w (some ad) vs) : ∀ j u, vs[j]? = some u → w.cell? (ad.add j) = some u := fun j u hu => by
  obtain ⟨hj, rfl⟩ := List.getElem?_eq_some_iff.1 hu
  obtain ⟨b, o, e, hc⟩ := h j hj
  simp only [Option.some.injEq] at e
  subst e
  have hadd : (⟨b, o, none⟩ : Addr).add j = ⟨b, o + j, none⟩ := by unfold Addr.add; split <;> simp_all
  rw [hadd]; exact hc

/-! ### rows of the call's own -/
/-- A row of the call's own, from block 'base' on, elements of one cell. -/
def OwnV (e : TypeId) (w : World) (base : Nat) (v : Value) (vs : List Value) : Prop := w.ownsRow base e 1 v vs.length vs
def Own (w : World) (base : Nat) (v : Value) (xs : List Byte) : Prop := OwnV 5 w base v (vbs xs)

theorem OwnV.form {e : TypeId} {w : World} {base : Nat} {v : Value} {vs : List Value} (h : OwnV e w base v vs) :
    ∃ A c, v = .slice A vs.length c ∧ vs.length ≤ c ∧ c ≤ maxLen ∧ RdV w A vs ∧ (∀ ad, A = some ad → base ≤ ad.block ∧ ad.block < w.heap.size) := by
  rcases h.2 with ⟨rfl, h0⟩ | ⟨g, cap, cur, rfl, hb, hg, h1, h2, _⟩
  · refine ⟨none, 0, by rw [h0], by omega, by simp [maxLen], ?_, by simp⟩
    rw [List.eq_nil_of_length_eq_zero h0]
    exact RdV.nil _ _
  · refine ⟨_, cap, rfl, h1, h2, fun i hi => ⟨g, 0, rfl, ?_⟩, ?_⟩
    · have := World.ownsRow.cells h (g := g) rfl i _ (List.getElem?_eq_getElem hi)
      have hadd : (⟨g, 0, none⟩ : Addr).add i = ⟨g, 0 + i, none⟩ := by unfold Addr.add; split <;> simp_all
      rw [hadd] at this
      exact this
    · intro ad ha
      simp only [Option.some.injEq] at ha
      subst ha
      exact ⟨hb, (Array.getElem?_eq_some_iff.1 hg).1⟩
theorem Own.form {w : World} {base : Nat} {v : Value} {xs : List Byte} (h : Own w base v xs) :
    ∃ A c, v = .slice A xs.length c ∧ xs.length ≤ c ∧ c ≤ maxLen ∧ Rd w A xs ∧ (∀ ad, A = some ad → base ≤ ad.block ∧ ad.block < w.heap.size) := by
  obtain ⟨A, c, h1, h2, h3⟩ := OwnV.form h
  rw [vbs_length] at h1 h2
  exact ⟨A, c, h1, h2, h3⟩
theorem OwnV.grown {e : TypeId} {w w' : World} {base : Nat} {v : Value} {vs : List Value} {row : Option Nat} (h : OwnV e w base v vs) (hg : w.grownBy w' row) (hne : v.ownBlock = none ∨ v.ownBlock ≠ row) : OwnV e w' base v vs :=
  World.ownsRow.kept h hg hne
theorem OwnV.below {e : TypeId} {w w' : World} {base : Nat} {v : Value} {vs : List Value} (h : OwnV e w base v vs) (hb : Below w.heap.size w w') : OwnV e w' base v vs :=
  World.ownsRow.kept (row := none) h ⟨hb.os, hb.tape, hb.output, hb.size, fun k hk _ => hb.block k hk⟩ (by cases hv : v.ownBlock <;> simp)
theorem Own.below {w w' : World} {base : Nat} {v : Value} {xs : List Byte} (h : Own w base v xs) (hb : Below w.heap.size w w') : Own w' base v xs := OwnV.below h hb
theorem OwnV.lower {e : TypeId} {w : World} {base base' : Nat} {v : Value} {vs : List Value} (h : OwnV e w base v vs) (hb : base' ≤ base) : OwnV e w base' v vs := by
  refine ⟨h.1, ?_⟩
  rcases h.2 with h1 | ⟨g, cap, cur, h1, h2, h3⟩
  · exact .inl h1
  · exact .inr ⟨g, cap, cur, h1, by omega, h3⟩
theorem Own.lower {w : World} {base base' : Nat} {v : Value} {xs : List Byte} (h : Own w base v xs) (hb : base' ≤ base) : Own w base' v xs := OwnV.lower h hb
theorem OwnV.nil (e : TypeId) (w : World) (base : Nat) : OwnV e w base (.slice none 0 0) [] := World.ownsRow_nil w base _ _
theorem Own.nil (w : World) (base : Nat) : Own w base (.slice none 0 0) [] := OwnV.nil _ w base
theorem OwnV.alloc {e : TypeId} {w : World} {base : Nat} {v : Value} {vs : List Value} (h : OwnV e w base v vs) (o : Obj) : OwnV e (w.alloc o) base v vs := World.ownsRow.alloc h o
theorem Own.alloc {w : World} {base : Nat} {v : Value} {xs : List Byte} (h : Own w base v xs) (o : Obj) : Own (w.alloc o) base v xs := OwnV.alloc h o
theorem OwnV.drew {e : TypeId} {w : World} {base : Nat} {v : Value} {vs : List Value} (h : OwnV e w base v vs) : OwnV e w.drew base v vs := h
theorem Own.drew {w : World} {base : Nat} {v : Value} {xs : List Byte} (h : Own w base v xs) : Own w.drew base v xs := h
theorem OwnV.lit (e : TypeId) (w : World) (vs : List Value) (hm : vs.length ≤ maxLen) : OwnV e (w.alloc (.cells vs.toArray e)) w.heap.size (.slice (some ⟨w.heap.size, 0, none⟩) vs.length vs.length) vs := by
  have := World.ownsRow_lit (base := w.heap.size) (e := e) (size := 1) w vs.toArray vs.length (Nat.le_refl _) hm (by simp)
  exact this
theorem OwnV.base {e : TypeId} {w : World} {base : Nat} {v : Value} {vs : List Value} (h : OwnV e w base v vs) : ∀ k, v.ownBlock = some k → base ≤ k ∧ k < w.heap.size := World.ownsRow.lt h
theorem OwnV.len {e : TypeId} {w : World} {base : Nat} {v : Value} {vs : List Value} (h : OwnV e w base v vs) : vs.length ≤ maxLen := by
  obtain ⟨A, c, _, h1, h2, _⟩ := h.form
  omega

/-- 'append(v, x...)': v a row of the call's own, x whatever reads as these values. -/
theorem run_append_any {P : Program} (w : World) (base : Nat) (t ty e : TypeId) (bytes : Nat) (z : Value) (ht : P.underlying t = some (.slice e)) (hinfo : (P.info? e).map (fun i => (i.zero, i.size, i.bytes)) = some (some z, 1, bytes)) (hzs : z.cells.size = 1)
    (v : Value) (xs : List Value) (hown : OwnV e w base v xs) (A : Option Addr) (c : Nat) (ys : List Value) (hr : RdV w A ys) (h1 : ∀ u ∈ ys, u.oneCell' = true)
    (h63 : xs.length + ys.length ≤ maxLen) (hbytes : (xs.length + ys.length) * bytes ≤ 140737488355328) (hbase : base ≤ w.heap.size) :
    ∃ v' w', (Builtin.append_ #[t, t] ty #[v, .slice A ys.length c]).run P w = .ok v' w' ∧ OwnV e w' base v' (xs ++ ys) ∧ w.grownBy w' v.ownBlock ∧ (v'.ownBlock = v.ownBlock ∨ v'.ownBlock = some w.heap.size) := by
  obtain ⟨i, hi, hz, hsize, hby⟩ := info_parts hinfo
  cases A with
  | none =>
    have hys : ys = [] := by
      cases ys with
      | nil => rfl
      | cons y ys => obtain ⟨b, o, e, _⟩ := hr 0 (by simp); cases e
    subst hys
    refine ⟨v, w, ?_, by simpa using hown, ⟨rfl, rfl, rfl, Nat.le_refl _, fun _ _ _ => rfl⟩, .inl rfl⟩
    rcases hown.2 with ⟨rfl, h0⟩ | ⟨g, cap, cur, rfl, _, _, hnc, _⟩
    · simp [Builtin.append_, run_underlying ht, sizeOf, typeInfo, hi, Builtin.lenOf, Builtin.firstCells]
    · simp [Builtin.append_, run_underlying ht, sizeOf, typeInfo, hi, Builtin.lenOf, Builtin.firstCells, hnc, storeCells]
  | some ad =>
    obtain ⟨v', w', r1, r2, r3, _, r4⟩ := run_append_own_at (P := P) w base t ty e i z 1 bytes ht hi hz hsize hby hzs (by omega) v xs.length xs hown ad ys.length c ys (by simp) hr.adds h1 h63 hbytes hbase
    exact ⟨v', w', r1, by unfold OwnV; rw [List.length_append]; exact r2, r3, r4⟩

theorem info_u8 : (Tryd.prog.info? 5).map (fun i => (i.zero, i.size, i.bytes)) = some (some (.int .u8 0), 1, 1) := by kernel_rfl

theorem maxLen_eq : maxLen = 9223372036854775807 := by simp [maxLen]
theorem run_append_bytes (w : World) (ty : TypeId) (base : Nat) (v : Value) (xs : List Byte) (hown : Own w base v xs) (A : Option Addr) (c : Nat) (ys : List Byte) (hr : Rd w A ys)
    (hlen : xs.length + ys.length ≤ 140737488355328) (hbase : base ≤ w.heap.size) :
    ∃ v' w', (Builtin.append_ #[27, 27] ty #[v, .slice A ys.length c]).run Tryd.prog w = .ok v' w' ∧ Own w' base v' (xs ++ ys) ∧ w.grownBy w' v.ownBlock ∧ (v'.ownBlock = v.ownBlock ∨ v'.ownBlock = some w.heap.size) := by
  have := run_append_any (P := Tryd.prog) w base 27 ty 5 1 (.int .u8 0) Tryd.underlying27 info_u8 rfl v (vbs xs) hown A c (vbs ys) hr (vbs_oneCell ys) (by rw [vbs_length, vbs_length, maxLen_eq]; omega) (by rw [vbs_length, vbs_length]; omega) hbase
  rw [vbs_length] at this
  unfold Own
  rw [vbs_append]
  exact this

/-- At the operation, in the text's order. -/
theorem wpList_append_bytes {ops : Array Oper} {rest : List Oper} {o : Oper} {a : Act} {w : World} {Q : Exit → Act → World → Prop} (hgd : o.guard = none) (s x : Operand)
    (ho : o.op = .call { callee := .builtin .append, args := #[s, x], argTypes := #[27, 27] })
    (base : Nat) (v : Value) (xs : List Byte) (hown : Own w base v xs) (hs : a.eval s = v) (A : Option Addr) (c : Nat) (ys : List Byte) (hx : a.eval x = .slice A ys.length c) (hr : Rd w A ys)
    (hlen : xs.length + ys.length ≤ 140737488355328) (hbase : base ≤ w.heap.size)
    (h : ∀ v' w', Own w' base v' (xs ++ ys) → w.grownBy w' v.ownBlock → (v'.ownBlock = v.ownBlock ∨ v'.ownBlock = some w.heap.size) → wpList Tryd.prog ops Q rest (a.put o.dst v') w') : wpList Tryd.prog ops Q (o :: rest) a w := by
  refine wpList_plain hgd fun K hK => ?_
  obtain ⟨v', w', hrun, h2, h3, h4⟩ := run_append_bytes w o.type base v xs hown A c ys hr hlen hbase
  unfold Oper.wp execOp
  simp only [ho, resolve, invoke, builtin, Sem.run_bind, Sem.run_pure, Result.andThen_ok, List.map_toArray, List.map_cons, List.map_nil, hs, hx, hrun]
  exact hK _ _ (h v' w' h2 h3 h4)

/-- The same for whatever elements of one cell. -/
theorem wpList_append_any {P : Program} {ops : Array Oper} {rest : List Oper} {o : Oper} {a : Act} {w : World} {Q : Exit → Act → World → Prop} (hgd : o.guard = none) (s x : Operand) (t e : TypeId) (bytes : Nat) (z : Value)
    (ht : P.underlying t = some (.slice e)) (hinfo : (P.info? e).map (fun i => (i.zero, i.size, i.bytes)) = some (some z, 1, bytes)) (hzs : z.cells.size = 1)
    (ho : o.op = .call { callee := .builtin .append, args := #[s, x], argTypes := #[t, t] })
    (base : Nat) (v : Value) (xs : List Value) (hown : OwnV e w base v xs) (hs : a.eval s = v) (A : Option Addr) (n c : Nat) (ys : List Value) (hn : n = ys.length) (hx : a.eval x = .slice A n c) (hr : RdV w A ys) (h1 : ∀ u ∈ ys, u.oneCell' = true)
    (h63 : xs.length + ys.length ≤ maxLen) (hbytes : (xs.length + ys.length) * bytes ≤ 140737488355328) (hbase : base ≤ w.heap.size)
    (h : ∀ v' w', OwnV e w' base v' (xs ++ ys) → w.grownBy w' v.ownBlock → (v'.ownBlock = v.ownBlock ∨ v'.ownBlock = some w.heap.size) → wpList P ops Q rest (a.put o.dst v') w') : wpList P ops Q (o :: rest) a w := by
  subst hn
  refine wpList_plain hgd fun K hK => ?_
  obtain ⟨v', w', hrun, h2, h3, h4⟩ := run_append_any (P := P) w base t o.type e bytes z ht hinfo hzs v xs hown A c ys hr h1 h63 hbytes hbase
  unfold Oper.wp execOp
  simp only [ho, resolve, invoke, builtin, Sem.run_bind, Sem.run_pure, Result.andThen_ok, List.map_toArray, List.map_cons, List.map_nil, hs, hx, hrun]
  exact hK _ _ (h v' w' h2 h3 h4)

/-! ### slices of slices: run equations with the address left open -/
/-- x[k:]. -/
theorem cut_lo (A : Option Addr) (c : Nat) (xs : List Byte) (k : Nat) (hk : k ≤ xs.length) (hc : xs.length ≤ c) :
    ∃ A', (∀ W, (Instr.slice 27 (.slice A xs.length c) (some (.int .i64 (k : Int))) none none).run Tryd.prog W = .ok (.slice A' (xs.length - k) (c - k)) W) ∧ (∀ w, Rd w A xs → Rd w A' (xs.drop k)) ∧ (A.map (·.block) = A'.map (·.block)) := by
  obtain ⟨i, hi, _, hsz, _⟩ := info_parts info_u8
  refine ⟨if c = k then A else A.map (·.add k), fun W => ?_, fun w h => ?_, ?_⟩
  · have hel : Tryd.prog.elem 27 = 5 := by simp [Program.elem, Tryd.underlying27]
    have hu : Tryd.prog.underlying 27 = some (.slice (Tryd.prog.elem 27)) := by rw [hel]; exact Tryd.underlying27
    rw [run_slice_l W 27 A xs.length c hu .i64 (k : Int) (Int.natCast_nonneg _) (by omega), hel]
    simp [sizeOf, typeInfo, hi, hsz, sliced, Result.andThen]
  · by_cases hck : c = k
    · rw [List.drop_eq_nil_of_le (by omega)]; exact Rd.nil _ _
    · rw [if_neg hck]
      intro j hj
      simp only [vbs_length, List.length_drop] at hj
      obtain ⟨b, o, rfl, hb, hcell⟩ := h.form (by omega)
      refine ⟨b, o + k, ?_, ?_⟩
      · have : (⟨b, o, none⟩ : Addr).add k = ⟨b, o + k, none⟩ := by unfold Addr.add; split <;> simp_all
        simp [this]
      · have := hcell (k + j) (by omega)
        rw [Nat.add_assoc, this]
        simp [vbs]
  · by_cases hck : c = k
    · simp [hck]
    · rw [if_neg hck]
      cases A with
      | none => rfl
      | some a => simp [Addr.add]; split <;> rfl
/-- x[:k]. -/
theorem cut_hi (A : Option Addr) (c : Nat) (xs : List Byte) (k : Nat) (hk : k ≤ xs.length) (hc : xs.length ≤ c) :
    ∀ W, (Instr.slice 27 (.slice A xs.length c) none (some (.int .i64 (k : Int))) none).run Tryd.prog W = .ok (.slice A k c) W := by
  intro W
  obtain ⟨i, hi, _, hsz, _⟩ := info_parts info_u8
  have hel : Tryd.prog.elem 27 = 5 := by simp [Program.elem, Tryd.underlying27]
  have hu : Tryd.prog.underlying 27 = some (.slice (Tryd.prog.elem 27)) := by rw [hel]; exact Tryd.underlying27
  rw [run_slice_h W 27 A xs.length c hu .i64 (k : Int) (Int.natCast_nonneg _) (by omega), hel]
  simp [sizeOf, typeInfo, hi, hsz, sliced, Result.andThen]
  cases A with
  | none => intro _; rfl
  | some a => intro _; simp [Addr.add]

/-- A block of another's own row: what was written is none of these. -/
theorem Below.of_grown {w0 w w' : World} {v : Value} (hb : Below w0.heap.size w0 w) (hg : w.grownBy w' v.ownBlock) (hv : ∀ k, v.ownBlock = some k → w0.heap.size ≤ k) : Below w0.heap.size w0 w' := hb.grown hg hb.size hv

theorem OwnV.info {e : TypeId} {w : World} {base n : Nat} {A : Option Addr} {c : Nat} {vs : List Value} (h : OwnV e w base (.slice A n c) vs) : vs.length ≤ c ∧ c ≤ maxLen ∧ RdV w A vs ∧ n = vs.length ∧ ∀ ad, A = some ad → base ≤ ad.block ∧ ad.block < w.heap.size := by
  obtain ⟨A', c', e1, h1, h2, h3, h4⟩ := h.form
  simp only [Value.slice.injEq] at e1
  obtain ⟨rfl, rfl, rfl⟩ := e1
  exact ⟨h1, h2, h3, rfl, h4⟩
theorem Own.info {w : World} {base n : Nat} {A : Option Addr} {c : Nat} {xs : List Byte} (h : Own w base (.slice A n c) xs) : xs.length ≤ c ∧ c ≤ maxLen ∧ Rd w A xs ∧ n = xs.length ∧ ∀ ad, A = some ad → base ≤ ad.block ∧ ad.block < w.heap.size := by
  have := OwnV.info h
  rw [vbs_length] at this
  exact this
theorem Own.bnd {w : World} {base : Nat} {v : Value} {xs : List Byte} (h : Own w base v xs) : ∀ k, v.ownBlock = some k → base ≤ k := fun k hk => (OwnV.base h k hk).1

/-- w has come out of w0: what was there at w0 is as it was. (A plain definition: the walk does not look into it.) -/
def FB (w0 w : World) : Prop := Below w0.heap.size w0 w
theorem FB.refl (w : World) : FB w w := Below.refl _ _
theorem FB.out {w0 w : World} (h : FB w0 w) : Below w0.heap.size w0 w := h
theorem FB.le {w0 w : World} (h : FB w0 w) : w0.heap.size ≤ w.heap.size := Below.size h
theorem FB.call {w0 w w' : World} (h : FB w0 w) (k : Below w.heap.size w w') : FB w0 w' := Below.trans h (Below.mono k h.le)
theorem FB.alloc {w0 w : World} (h : FB w0 w) (o : Obj) : FB w0 (w.alloc o) := Below.alloc h h.le o
theorem FB.drew {w0 w : World} (h : FB w0 w) : FB w0 w.drew := Below.drew h
theorem FB.drewN {w0 w : World} (h : FB w0 w) (n : Nat) : FB w0 (w.drewN n) := ⟨h.out.os, h.out.tape, h.out.output, h.out.size, h.out.block⟩
theorem FB.set {w0 w : World} (h : FB w0 w) {p : Addr} (hp : w0.heap.size ≤ p.block) (u : Value) : FB w0 (w.setCell p u) := Below.setCell h hp u
theorem FB.grown {w0 w w' : World} {row : Option Nat} (h : FB w0 w) (hg : w.grownBy w' row) (hr : ∀ k, row = some k → w0.heap.size ≤ k) : FB w0 w' := Below.grown h hg h.le hr
theorem FB.trans {w0 w w' : World} (h : FB w0 w) (k : FB w w') : FB w0 w' := h.call k
theorem FB.rd {w0 w : World} (h : FB w0 w) {A : Option Addr} {xs : List Byte} (hr : Rd w0 A xs) : Rd w A xs := hr.below h
theorem FB.rdV {w0 w : World} (h : FB w0 w) {A : Option Addr} {vs : List Value} (hr : RdV w0 A vs) : RdV w A vs := hr.below h
theorem FB.own {w0 w : World} (h : FB w0 w) {base : Nat} {v : Value} {xs : List Byte} (hr : Own w0 base v xs) : Own w base v xs := hr.below h
theorem FB.ownV {w0 w : World} (h : FB w0 w) {e : TypeId} {base : Nat} {v : Value} {vs : List Value} (hr : OwnV e w0 base v vs) : OwnV e w base v vs := OwnV.below hr h
theorem FB.block {w0 w : World} (h : FB w0 w) (k : Nat) (hk : k < w0.heap.size) : w.heap[k]? = w0.heap[k]? := Below.block h k hk
theorem FB.cell {w0 w : World} (h : FB w0 w) {a : Addr} {v : Value} (hc : w0.cell? a = some v) : w.cell? a = some v := (Below.cell h (World.block_lt_of_cell? w0 a hc)).trans hc

/-- From address A on stand slices of bytes. -/
def RdL (w : World) (A : Option Addr) (ls : List (List Byte)) : Prop :=
  ∀ i, (h : i < ls.length) → ∃ b o A' c, A = some ⟨b, o, none⟩ ∧ w.cell? ⟨b, o + i, none⟩ = some (.slice A' ls[i].length c) ∧ ls[i].length ≤ c ∧ c ≤ maxLen ∧ Rd w A' ls[i]
theorem RdL.below {w w' : World} {A : Option Addr} {ls : List (List Byte)} (h : RdL w A ls) (hb : Below w.heap.size w w') : RdL w' A ls := fun i hi => by
  obtain ⟨b, o, A', c, h1, h2, h3, h4, h5⟩ := h i hi
  exact ⟨b, o, A', c, h1, (hb.cell (World.block_lt_of_cell? w _ h2)).trans h2, h3, h4, h5.below hb⟩
theorem RdL.lit {w : World} {ls : List (List Byte)} {vs : List Value} {t : TypeId} (hl : vs.length = ls.length)
    (h : ∀ i, (hi : i < ls.length) → ∃ A' c, vs[i]? = some (.slice A' ls[i].length c) ∧ ls[i].length ≤ c ∧ c ≤ maxLen ∧ Rd w A' ls[i]) : RdL (w.alloc (.cells vs.toArray t)) (some ⟨w.heap.size, 0, none⟩) ls := fun i hi => by
  obtain ⟨A', c, h1, h2, h3, h4⟩ := h i hi
  refine ⟨w.heap.size, 0, A', c, rfl, ?_, h2, h3, h4.alloc _⟩
  rw [cell_of_row _ _ _ vs.toArray t (0, 0) (heap_alloc_new _ _)]
  simpa using h1

/-- '[]byte("..")' of a constant: what the walk is given for it. -/
theorem conv_const (g : Nat) (w : World) (C : Array Value) (n c : Nat) (hg : g = w.heap.size) : (convert 27 27 (.slice (some ⟨g, 0, none⟩) n c)).run Tryd.prog (w.alloc (.cells C 5)) = .ok (.slice (some ⟨g, 0, none⟩) n c) (w.alloc (.cells C 5 (C.size, C.size + 1))) := by
  subst hg
  exact Lib.run_convert_bytes_const (P := Tryd.prog) w _ _ C n c Tryd.underlying27 Tryd.underlying5

/-- A load, a store, by its run equation (a whole array or struct: the walk's own steps leave those). -/
theorem wpList_load_by {P : Program} {ops : Array Oper} {rest : List Oper} {o : Oper} {a : Act} {w : World} {Q : Exit → Act → World → Prop} (hgd : o.guard = none) (ty : TypeId) (x : Operand) (ho : o.op = .load ty x)
    (v : Value) (hrun : (Instr.loadAt ty (a.eval x)).run P w = .ok v w) (h : wpList P ops Q rest (a.put o.dst v) w) : wpList P ops Q (o :: rest) a w :=
  wpList_plain hgd fun _ hK => by
    unfold Oper.wp execOp
    simp only [ho, Sem.run_bind, Sem.run_pure, Result.andThen_ok, hrun]
    exact hK _ _ h
theorem wpList_store_by {P : Program} {ops : Array Oper} {rest : List Oper} {o : Oper} {a : Act} {w : World} {Q : Exit → Act → World → Prop} (hgd : o.guard = none) (ty : TypeId) (x y : Operand) (ho : o.op = .store ty x y)
    (w' : World) (hrun : (Instr.storeAt ty (a.eval x) (a.eval y)).run P w = .ok () w') (h : wpList P ops Q rest (a.put o.dst undef) w') : wpList P ops Q (o :: rest) a w :=
  wpList_plain hgd fun _ hK => by
    unfold Oper.wp execOp
    simp only [ho, Sem.run_bind, Sem.run_pure, Result.andThen_ok, hrun]
    exact hK _ _ h

theorem below_trans {w w1 w2 : World} {B : Nat} (h : Below B w w1) (hB : B ≤ w1.heap.size) (k : Below w1.heap.size w1 w2) : Below B w w2 := h.trans (k.mono hB)

end Go.Proofs.YtoidlmhebnlnbaaDoor
/- Checksums, in plain Lean: the table, a step, the sum. No program in sight. -/
set_option linter.unusedVariables false
set_option linter.unusedSimpArgs false
namespace Go.Proofs.YtoidlmhebnlnbaaDoor

/-- One bit of the table's word. -/
def crcBit (x : BitVec 32) : BitVec 32 := if x &&& 1#32 = 1#32 then (x >>> 1) ^^^ 0x82f63b78#32 else x >>> 1
def crcBits : Nat → BitVec 32 → BitVec 32
  | 0, x => x
  | n + 1, x => crcBit (crcBits n x)
/-- The table's word of a number. -/
def crcWord (i : Nat) : BitVec 32 := crcBits 8 (BitVec.ofNat 32 i)
/-- Behind a byte. -/
def crcStep (t : Byte → BitVec 32) (s : BitVec 32) (b : Byte) : BitVec 32 := t (s.setWidth 8 ^^^ b) ^^^ s >>> 8
def crcOn (t : Byte → BitVec 32) (s : BitVec 32) (xs : List Byte) : BitVec 32 := ~~~ (xs.foldl (crcStep t) (~~~ s))
def crcT (b : Byte) : BitVec 32 := crcWord b.toNat
def crcSum (xs : List Byte) : BitVec 32 := crcOn crcT 0#32 xs

/-- Cells that hold a table of 256 words. -/
def IsTab (T : Array Value) (t : Byte → BitVec 32) : Prop := T.size = 256 ∧ ∀ b : Byte, T[(nb b).toNat]? = some (.int .u32 (nb (t b)))

end Go.Proofs.YtoidlmhebnlnbaaDoor
/- Checksums, in plain Lean: xor goes through, a step can be undone. -/
set_option linter.unusedVariables false
set_option linter.unusedSimpArgs false
namespace Go.Proofs.YtoidlmhebnlnbaaDoor

theorem and_one_iff (x : BitVec 32) : x &&& 1#32 = 1#32 ↔ x.getLsbD 0 = true := by
  constructor
  · intro h
    have := congrArg (fun v : BitVec 32 => v.getLsbD 0) h
    simpa using this
  · intro h
    apply BitVec.eq_of_getLsbD_eq
    intro i hi
    by_cases h0 : i = 0
    · subst h0; simp [h]
    · simp [BitVec.getLsbD_one, h0]
theorem crcBit_eq (x : BitVec 32) : crcBit x = (x >>> 1) ^^^ (if x.getLsbD 0 then 0x82f63b78#32 else 0#32) := by
  unfold crcBit
  by_cases h : x.getLsbD 0 = true
  · rw [if_pos ((and_one_iff x).2 h), if_pos h]
  · rw [if_neg (fun e => h ((and_one_iff x).1 e)), if_neg h, BitVec.xor_zero]
theorem crcBit_xor (x y : BitVec 32) : crcBit (x ^^^ y) = crcBit x ^^^ crcBit y := by
  rw [crcBit_eq, crcBit_eq, crcBit_eq]
  apply BitVec.eq_of_getLsbD_eq
  intro i hi
  simp only [BitVec.getLsbD_xor, BitVec.getLsbD_ushiftRight]
  cases x.getLsbD 0 <;> cases y.getLsbD 0 <;> simp
  · cases x.getLsbD (1 + i) <;> cases y.getLsbD (1 + i) <;> simp
  · cases x.getLsbD (1 + i) <;> cases y.getLsbD (1 + i) <;> simp
theorem crcBits_xor (n : Nat) (x y : BitVec 32) : crcBits n (x ^^^ y) = crcBits n x ^^^ crcBits n y := by
  induction n with
  | zero => rfl
  | succ n ih => simp only [crcBits, ih, crcBit_xor]
theorem crcBit_zero : crcBit 0#32 = 0#32 := by decide
theorem crcBits_zero (n : Nat) : crcBits n 0#32 = 0#32 := by
  induction n with
  | zero => rfl
  | succ n ih => simp only [crcBits, ih, crcBit_zero]
theorem crcBit_inj {x : BitVec 32} (h : crcBit x = 0#32) : x = 0#32 := by
  rw [crcBit_eq] at h
  by_cases h0 : x.getLsbD 0 = true
  · rw [if_pos h0] at h
    have := congrArg (fun v : BitVec 32 => v.getLsbD 31) h
    simp at this
  · rw [if_neg h0, BitVec.xor_zero] at h
    apply BitVec.eq_of_getLsbD_eq
    intro i hi
    cases i with
    | zero => simpa using h0
    | succ i =>
      have := congrArg (fun v : BitVec 32 => v.getLsbD i) h
      simp only [BitVec.getLsbD_ushiftRight] at this
      rw [Nat.add_comm] at this
      simpa using this
theorem crcBits_inj {n : Nat} {x : BitVec 32} (h : crcBits n x = 0#32) : x = 0#32 := by
  induction n with
  | zero => exact h
  | succ n ih => exact ih (crcBit_inj h)
theorem xor_eq_zero {n : Nat} {x y : BitVec n} : x ^^^ y = 0#n ↔ x = y := by
  constructor
  · intro h
    have : (x ^^^ y) ^^^ y = 0#n ^^^ y := by rw [h]
    rwa [BitVec.xor_assoc, BitVec.xor_self, BitVec.xor_zero, BitVec.zero_xor] at this
  · rintro rfl; exact BitVec.xor_self
theorem crcBits_eq {n : Nat} {x y : BitVec 32} : crcBits n x = crcBits n y ↔ x = y := by
  rw [← xor_eq_zero, ← crcBits_xor]
  constructor
  · intro h; exact xor_eq_zero.1 (crcBits_inj h)
  · rintro rfl; rw [BitVec.xor_self]; exact crcBits_zero n
theorem crcBits_low {n : Nat} {x : BitVec 32} (h : ∀ i, i < n → x.getLsbD i = false) : crcBits n x = x >>> n := by
  induction n with
  | zero => simp [crcBits]
  | succ n ih =>
    rw [crcBits, ih (fun i hi => h i (by omega)), crcBit_eq]
    have h0 : (x >>> n).getLsbD 0 = false := by simpa using h n (by omega)
    rw [if_neg (by rw [h0]; simp), BitVec.xor_zero, BitVec.shiftRight_add]
theorem crcBits_add (m n : Nat) (x : BitVec 32) : crcBits (m + n) x = crcBits m (crcBits n x) := by
  induction m with
  | zero => simp [crcBits]
  | succ m ih => rw [show m + 1 + n = (m + n) + 1 from by omega, crcBits, ih, crcBits]
theorem crcT_eq (b : Byte) : crcT b = crcBits 8 (b.setWidth 32) := by
  unfold crcT crcWord
  congr 1
  apply BitVec.eq_of_toNat_eq
  simp
theorem crcT_xor (a b : Byte) : crcT (a ^^^ b) = crcT a ^^^ crcT b := by
  rw [crcT_eq, crcT_eq, crcT_eq, ← crcBits_xor, BitVec.setWidth_xor]
theorem crcStep_eq (s : BitVec 32) (b : Byte) : crcStep crcT s b = crcBits 8 (s ^^^ b.setWidth 32) := by
  have hs : s ^^^ b.setWidth 32 = (s.setWidth 8 ^^^ b).setWidth 32 ^^^ (s ^^^ (s.setWidth 8).setWidth 32) := by
    rw [BitVec.setWidth_xor]
    apply BitVec.eq_of_getLsbD_eq
    intro i hi
    simp only [BitVec.getLsbD_xor]
    cases s.getLsbD i <;> cases (BitVec.setWidth 32 b).getLsbD i <;> cases (BitVec.setWidth 32 (BitVec.setWidth 8 s)).getLsbD i <;> rfl
  rw [hs, crcBits_xor, ← crcT_eq, crcStep]
  congr 1
  rw [crcBits_low]
  · apply BitVec.eq_of_getLsbD_eq
    intro i hi
    simp only [BitVec.getLsbD_ushiftRight, BitVec.getLsbD_xor, BitVec.getLsbD_setWidth]
    have : decide (8 + i < 8) = false := by simp
    simp [this]
  · intro i hi
    simp only [BitVec.getLsbD_xor, BitVec.getLsbD_setWidth]
    have h32 : i < 32 := by omega
    simp [hi, h32]
theorem crcStep_byte (s : BitVec 32) (a b : Byte) : crcStep crcT s a = crcStep crcT s b ↔ a = b := by
  rw [crcStep_eq, crcStep_eq, crcBits_eq]
  constructor
  · intro h
    have h2 : a.setWidth 32 = b.setWidth 32 := by
      have : s ^^^ (s ^^^ a.setWidth 32) = s ^^^ (s ^^^ b.setWidth 32) := by rw [h]
      rwa [← BitVec.xor_assoc, ← BitVec.xor_assoc, BitVec.xor_self, BitVec.zero_xor, BitVec.zero_xor] at this
    have h3 := congrArg (fun v : BitVec 32 => v.setWidth 8) h2
    simpa using h3
  · rintro rfl; rfl
theorem crcStep_state (x y : BitVec 32) (a : Byte) : crcStep crcT x a = crcStep crcT y a ↔ x = y := by
  rw [crcStep_eq, crcStep_eq, crcBits_eq]
  constructor
  · intro h
    have : (x ^^^ a.setWidth 32) ^^^ a.setWidth 32 = (y ^^^ a.setWidth 32) ^^^ a.setWidth 32 := by rw [h]
    rwa [BitVec.xor_assoc, BitVec.xor_assoc, BitVec.xor_self, BitVec.xor_zero, BitVec.xor_zero] at this
  · rintro rfl; rfl
theorem crcStep_xor (s s' : BitVec 32) (a b : Byte) : crcStep crcT (s ^^^ s') (a ^^^ b) = crcStep crcT s a ^^^ crcStep crcT s' b := by
  rw [crcStep_eq, crcStep_eq, crcStep_eq, ← crcBits_xor, BitVec.setWidth_xor]
  congr 1
  apply BitVec.eq_of_getLsbD_eq
  intro i hi
  simp only [BitVec.getLsbD_xor]
  cases s.getLsbD i <;> cases s'.getLsbD i <;> cases (BitVec.setWidth 32 a).getLsbD i <;> cases (BitVec.setWidth 32 b).getLsbD i <;> rfl
theorem crcOn_nil (t : Byte → BitVec 32) (x : BitVec 32) : crcOn t x [] = x := by simp [crcOn]
theorem crcOn_append (t : Byte → BitVec 32) (x : BitVec 32) (a b : List Byte) : crcOn t (crcOn t x a) b = crcOn t x (a ++ b) := by simp [crcOn, List.foldl_append]

/-- Byte by byte. -/
def xors (a b : List Byte) : List Byte := List.zipWith (· ^^^ ·) a b
theorem fold_xors (a b : List Byte) : ∀ (s s' : BitVec 32), a.length = b.length → (xors a b).foldl (crcStep crcT) (s ^^^ s') = a.foldl (crcStep crcT) s ^^^ b.foldl (crcStep crcT) s' := by
  induction a generalizing b with
  | nil => intro s s' h; cases b with
    | nil => rfl
    | cons y b => simp at h
  | cons x a ih => intro s s' h; cases b with
    | nil => simp at h
    | cons y b =>
      simp only [xors, List.zipWith_cons_cons, List.foldl_cons, crcStep_xor]
      exact ih b _ _ (by simpa using h)
theorem crcSum_three (a b c : List Byte) (h1 : a.length = b.length) (h2 : b.length = c.length) : crcSum (xors (xors a b) c) = crcSum a ^^^ crcSum b ^^^ crcSum c := by
  have hx : (xors a b).length = c.length := by simp [xors, h1, h2]
  have e : (~~~ 0#32 : BitVec 32) = (~~~ 0#32 ^^^ ~~~ 0#32) ^^^ ~~~ 0#32 := by decide
  unfold crcSum crcOn
  rw [e, fold_xors _ c _ _ hx, fold_xors a b _ _ h1]
  apply BitVec.eq_of_getLsbD_eq
  intro i hi
  simp only [BitVec.getLsbD_xor, BitVec.getLsbD_not, hi, decide_true, Bool.true_and]
  rw [← e]
  cases (List.foldl (crcStep crcT) (~~~0#32) a).getLsbD i <;> cases (List.foldl (crcStep crcT) (~~~0#32) b).getLsbD i <;> cases (List.foldl (crcStep crcT) (~~~0#32) c).getLsbD i <;> rfl
theorem crcSum_eq (a y : List Byte) (h : y.length = a.length) : crcSum y = crcSum a ↔ (xors y a).foldl (crcStep crcT) 0#32 = 0#32 := by
  have e : (0#32 : BitVec 32) = ~~~ 0#32 ^^^ ~~~ 0#32 := by decide
  conv => rhs; lhs; rw [e]
  rw [fold_xors y a _ _ h, xor_eq_zero]
  unfold crcSum crcOn
  constructor
  · intro h'; have := congrArg (fun v : BitVec 32 => ~~~ v) h'; simpa using this
  · intro h'; rw [h']
theorem fold_zeros (r : Nat) (s : BitVec 32) : (List.replicate r 0#8).foldl (crcStep crcT) s = 0#32 ↔ s = 0#32 := by
  induction r generalizing s with
  | zero => simp
  | succ r ih =>
    rw [List.replicate_succ, List.foldl_cons, ih, show (0#32 : BitVec 32) = crcStep crcT 0#32 0#8 from by decide +kernel, crcStep_state]
    rw [show crcStep crcT 0#32 0#8 = 0#32 from by decide +kernel]
/-- Up to four bytes as one word. -/
def pack : List Byte → BitVec 32
  | [] => 0#32
  | d :: ds => d.setWidth 32 ^^^ (pack ds <<< 8)
theorem pack_high (ds : List Byte) (i : Nat) (h : 8 * ds.length ≤ i) : (pack ds).getLsbD i = false := by
  induction ds generalizing i with
  | nil => simp [pack]
  | cons d ds ih =>
    simp only [List.length_cons] at h
    simp only [pack, BitVec.getLsbD_xor, BitVec.getLsbD_shiftLeft, BitVec.getLsbD_setWidth]
    rw [ih (i - 8) (by omega), BitVec.getLsbD_of_ge d i (by omega)]
    simp
theorem fold_pack (ds : List Byte) (h : ds.length ≤ 4) : ∀ s : BitVec 32, ds.foldl (crcStep crcT) s = crcBits (8 * ds.length) (s ^^^ pack ds) := by
  induction ds with
  | nil => intro s; simp [pack, crcBits]
  | cons d ds ih =>
    intro s
    simp only [List.length_cons] at h
    rw [List.foldl_cons, ih (by omega), crcStep_eq, List.length_cons, show 8 * (ds.length + 1) = 8 * ds.length + 8 from by omega, crcBits_add]
    congr 1
    rw [pack, ← BitVec.xor_assoc, crcBits_xor 8 (s ^^^ d.setWidth 32)]
    congr 1
    rw [crcBits_low]
    · apply BitVec.eq_of_getLsbD_eq
      intro i hi
      simp only [BitVec.getLsbD_ushiftRight, BitVec.getLsbD_shiftLeft]
      by_cases hb : 8 + i < 32
      · simp [hb]
      · simp [hb, pack_high ds i (by omega)]
    · intro i hi
      simp only [BitVec.getLsbD_shiftLeft]
      simp [hi]
theorem pack_zero (ds : List Byte) (h : ds.length ≤ 4) : pack ds = 0#32 ↔ ∀ d ∈ ds, d = 0#8 := by
  induction ds with
  | nil => simp [pack]
  | cons d ds ih =>
    simp only [List.length_cons] at h
    have ih' := ih (by omega)
    simp only [List.mem_cons, forall_eq_or_imp]
    rw [← ih', pack]
    constructor
    · intro e
      have hb : ∀ i, i < 32 → (d.setWidth 32 ^^^ (pack ds <<< 8)).getLsbD i = false := fun i _ => by rw [e]; simp
      refine ⟨BitVec.eq_of_getLsbD_eq fun i hi => ?_, BitVec.eq_of_getLsbD_eq fun i hi => ?_⟩
      · have := hb i (by omega)
        simp only [BitVec.getLsbD_xor, BitVec.getLsbD_shiftLeft, BitVec.getLsbD_setWidth] at this
        have h32 : i < 32 := by omega
        simpa [hi, h32] using this
      · by_cases hl : i + 8 < 32
        · have := hb (i + 8) hl
          simp only [BitVec.getLsbD_xor, BitVec.getLsbD_shiftLeft, BitVec.getLsbD_setWidth] at this
          rw [BitVec.getLsbD_of_ge d (i + 8) (by omega)] at this
          simpa [hl] using this
        · rw [pack_high ds i (by omega)]; simp
    · rintro ⟨rfl, h2⟩
      rw [h2]; decide
/-- A change of up to four bytes somewhere: the sums are one just where nothing has changed. -/
theorem fold_change (k r : Nat) (ds : List Byte) (h : ds.length ≤ 4) : (List.replicate k 0#8 ++ ds ++ List.replicate r 0#8).foldl (crcStep crcT) 0#32 = 0#32 ↔ ∀ d ∈ ds, d = 0#8 := by
  rw [List.foldl_append, fold_zeros, List.foldl_append, (fold_zeros k 0#32).2 rfl, fold_pack ds h, BitVec.zero_xor, ← pack_zero ds h]
  constructor
  · intro e; exact crcBits_inj e
  · intro e; rw [e]; exact crcBits_zero _

end Go.Proofs.YtoidlmhebnlnbaaDoor
/- Numbers and words as bytes, in plain Lean. No program in sight. -/
set_option linter.unusedVariables false
set_option linter.unusedSimpArgs false
namespace Go.Proofs.YtoidlmhebnlnbaaDoor

/-- A number's bytes: seven bits each, the lowest first. -/
def onum (n : BitVec 64) : List Byte :=
  if h : 128#64 ≤ n then (n.setWidth 8 ||| 128#8) :: onum (n >>> 7) else [n.setWidth 8]
termination_by n.toNat
decreasing_by
  have : 128 ≤ n.toNat := by simpa [BitVec.le_def] using h
  rw [BitVec.toNat_ushiftRight, Nat.shiftRight_eq_div_pow]
  omega
theorem onum_ge {n : BitVec 64} (h : 128#64 ≤ n) : onum n = (n.setWidth 8 ||| 128#8) :: onum (n >>> 7) := by
  conv => lhs; unfold onum
  rw [dif_pos h]
theorem onum_lt {n : BitVec 64} (h : ¬ 128#64 ≤ n) : onum n = [n.setWidth 8] := by
  conv => lhs; unfold onum
  rw [dif_neg h]
theorem onum_len_pos (n : BitVec 64) : 1 ≤ (onum n).length := by
  by_cases h : 128#64 ≤ n
  · rw [onum_ge h]; simp
  · rw [onum_lt h]; simp
theorem onum_len (k : Nat) (n : BitVec 64) (h : n.toNat < 2 ^ (7 * (k + 1))) : (onum n).length ≤ k + 1 := by
  induction k generalizing n with
  | zero => rw [onum_lt (by simp [BitVec.le_def]; omega)]; simp
  | succ k ih =>
    by_cases hn : 128#64 ≤ n
    · rw [onum_ge hn]
      have := ih (n >>> 7) (by
        rw [BitVec.toNat_ushiftRight, Nat.shiftRight_eq_div_pow]
        apply Nat.div_lt_of_lt_mul
        rw [← Nat.pow_add]
        exact Nat.lt_of_lt_of_eq h (by congr 1; omega))
      simp; omega
    · rw [onum_lt hn]; simp
theorem onum_len10 (n : BitVec 64) : (onum n).length ≤ 10 := onum_len 9 n (Nat.lt_of_lt_of_le n.isLt (Nat.pow_le_pow_right (by omega) (by omega)))
/-- A word's lowest bytes, the lowest first. -/
def oword : Nat → BitVec 64 → List Byte
  | 0, _ => []
  | k + 1, n => n.setWidth 8 :: oword k (n >>> 8)
theorem oword_len (k : Nat) (n : BitVec 64) : (oword k n).length = k := by
  induction k generalizing n with
  | zero => rfl
  | succ k ih => simp [oword, ih]
theorem oword_succ (k : Nat) (n : BitVec 64) : oword (k + 1) n = oword k n ++ [(n >>> (8 * k)).setWidth 8] := by
  induction k generalizing n with
  | zero => simp [oword]
  | succ k ih =>
    rw [oword, ih, oword, List.cons_append]
    congr 3
    rw [show 8 * (k + 1) = 8 + 8 * k by omega, BitVec.shiftRight_add]
/-- What Word lays down. -/
def owordZ (z : Int) (n : BitVec 64) : List Byte := if z = 2 then oword 2 n else if z = 4 then oword 4 n else if z = 8 then oword 8 n else []
def oblock (x : List Byte) : List Byte := onum (BitVec.ofNat 64 x.length) ++ x

/-- The count of bytes that a slice's length is. -/
theorem len64 (n : Nat) (h : n ≤ 9223372036854775807) : nb (BitVec.ofNat 64 n) = (n : Int) := nb_ofNat n (by omega)

end Go.Proofs.YtoidlmhebnlnbaaDoor
