/- Numbers of Go's unsigned kinds as bit vectors: the operations of the model, said on BitVec. No program in sight. -/
import Derived.WalkKit
set_option linter.unusedVariables false
set_option linter.unusedSimpArgs false
namespace Go.Proofs.Ytoidlmhebnlnbaa

/-- A bit vector as the number that a value of an unsigned kind holds. A plain definition: the walk's simp does not open it. -/
def nb {n : Nat} (x : BitVec n) : Int := (x.toNat : Int)

theorem nb_nonneg {n : Nat} (x : BitVec n) : 0 ≤ nb x := by unfold nb; omega
theorem nb_lt {n : Nat} (x : BitVec n) : nb x < 2 ^ n := by
  unfold nb
  have h := x.isLt
  rw [show ((2 : Int) ^ n) = ((2 ^ n : Nat) : Int) from by push_cast; rfl]
  omega
theorem nb_lt8 (x : BitVec 8) : nb x < 256 := nb_lt x
theorem nb_le8 (x : BitVec 8) : nb x ≤ 255 := by have := nb_lt x; simp at this; omega
theorem nb_lt16 (x : BitVec 16) : nb x < 65536 := nb_lt x
theorem nb_lt32 (x : BitVec 32) : nb x < 4294967296 := nb_lt x
theorem nb_lt64 (x : BitVec 64) : nb x < 18446744073709551616 := nb_lt x
theorem nb_neg {n : Nat} (x : BitVec n) : (nb x < 0) = False := by have := nb_nonneg x; simp; omega
theorem nb_inj {n : Nat} {x y : BitVec n} : nb x = nb y ↔ x = y := by
  unfold nb
  constructor
  · intro h; exact BitVec.eq_of_toNat_eq (by omega)
  · rintro rfl; rfl
theorem nb_beq {n : Nat} (x y : BitVec n) : (nb x == nb y) = (x == y) := by
  rw [Bool.eq_iff_iff]; simp [nb_inj]
theorem nb_bne {n : Nat} (x y : BitVec n) : (nb x != nb y) = (x != y) := by
  rw [Bool.eq_iff_iff]; simp [nb_inj]
theorem nb_lt_nb {n : Nat} (x y : BitVec n) : (nb x < nb y) = (x < y) := by
  unfold nb; simp [BitVec.lt_def]
theorem nb_le_nb {n : Nat} (x y : BitVec n) : (nb x ≤ nb y) = (x ≤ y) := by
  unfold nb; simp [BitVec.le_def]
theorem nb_toNat {n : Nat} (x : BitVec n) : (nb x).toNat = x.toNat := by unfold nb; simp
theorem nb_cast {n : Nat} (x : BitVec n) : ((x.toNat : Nat) : Int) = nb x := rfl
theorem nb_ofNat {n : Nat} (k : Nat) (h : k < 2 ^ n) : nb (BitVec.ofNat n k) = (k : Int) := by
  unfold nb; rw [BitVec.toNat_ofNat, Nat.mod_eq_of_lt h]
theorem nb_ofInt {n : Nat} (k : Int) (h0 : 0 ≤ k) (h : k < 2 ^ n) : nb (BitVec.ofInt n k) = k := by
  unfold nb
  rw [BitVec.toNat_ofInt, Int.toNat_of_nonneg (Int.emod_nonneg _ (by have := Nat.two_pow_pos n; omega))]
  exact Int.emod_eq_of_lt h0 (by exact_mod_cast h)

theorem nb_lit {n : Nat} (k : Nat) (h : k < 2 ^ n) : (no_index (OfNat.ofNat k) : Int) = nb (BitVec.ofNat n k) := (nb_ofNat k h).symm
theorem nb_beql {n : Nat} (x : BitVec n) (k : Nat) (h : k < 2 ^ n) : (nb x == (no_index (OfNat.ofNat k) : Int)) = (x == BitVec.ofNat n k) := by
  rw [nb_lit k h, nb_beq]
theorem nb_bnel {n : Nat} (x : BitVec n) (k : Nat) (h : k < 2 ^ n) : (nb x != (no_index (OfNat.ofNat k) : Int)) = (x != BitVec.ofNat n k) := by
  rw [nb_lit k h, nb_bne]
theorem nb_beq1 {n : Nat} (x : BitVec n) (h : 1 < 2 ^ n) : (nb x == 1) = (x == 1#n) := nb_beql x 1 h
theorem nb_beq0 {n : Nat} (x : BitVec n) : (nb x == 0) = (x == 0#n) := nb_beql x 0 (Nat.two_pow_pos n)
theorem nb_bne0 {n : Nat} (x : BitVec n) : (nb x != 0) = (x != 0#n) := nb_bnel x 0 (Nat.two_pow_pos n)

theorem nb_zero {n : Nat} : nb (0#n) = 0 := by simp [nb]

/-! ### widths -/
theorem nb_setWidth {m n : Nat} (x : BitVec m) (h : m ≤ n) : nb (x.setWidth n) = nb x := by
  unfold nb
  rw [BitVec.toNat_setWidth, Nat.mod_eq_of_lt (Nat.lt_of_lt_of_le x.isLt (Nat.pow_le_pow_right (by omega) h))]
theorem nb_mod8 {m : Nat} (x : BitVec m) : nb x % 256 = nb (x.setWidth 8) := by
  unfold nb; rw [BitVec.toNat_setWidth]; omega
theorem nb_mod16 {m : Nat} (x : BitVec m) : nb x % 65536 = nb (x.setWidth 16) := by
  unfold nb; rw [BitVec.toNat_setWidth]; omega
theorem nb_mod32 {m : Nat} (x : BitVec m) : nb x % 4294967296 = nb (x.setWidth 32) := by
  unfold nb; rw [BitVec.toNat_setWidth]; omega

/-! ### shifts right by a constant: the model divides -/
theorem nb_shr {n : Nat} (x : BitVec n) (k : Nat) : nb x / (2 ^ k : Nat) = nb (x >>> k) := by
  unfold nb; rw [BitVec.toNat_ushiftRight, Nat.shiftRight_eq_div_pow]; omega
theorem nb_shr_1 {n : Nat} (x : BitVec n) : nb x / (2 : Int) = nb (x >>> 1) := nb_shr x 1
theorem nb_shr_2 {n : Nat} (x : BitVec n) : nb x / (4 : Int) = nb (x >>> 2) := nb_shr x 2
theorem nb_shr_3 {n : Nat} (x : BitVec n) : nb x / (8 : Int) = nb (x >>> 3) := nb_shr x 3
theorem nb_shr_4 {n : Nat} (x : BitVec n) : nb x / (16 : Int) = nb (x >>> 4) := nb_shr x 4
theorem nb_shr_5 {n : Nat} (x : BitVec n) : nb x / (32 : Int) = nb (x >>> 5) := nb_shr x 5
theorem nb_shr_6 {n : Nat} (x : BitVec n) : nb x / (64 : Int) = nb (x >>> 6) := nb_shr x 6
theorem nb_shr_7 {n : Nat} (x : BitVec n) : nb x / (128 : Int) = nb (x >>> 7) := nb_shr x 7
theorem nb_shr_8 {n : Nat} (x : BitVec n) : nb x / (256 : Int) = nb (x >>> 8) := nb_shr x 8
theorem nb_shr_9 {n : Nat} (x : BitVec n) : nb x / (512 : Int) = nb (x >>> 9) := nb_shr x 9
theorem nb_shr_10 {n : Nat} (x : BitVec n) : nb x / (1024 : Int) = nb (x >>> 10) := nb_shr x 10
theorem nb_shr_11 {n : Nat} (x : BitVec n) : nb x / (2048 : Int) = nb (x >>> 11) := nb_shr x 11
theorem nb_shr_12 {n : Nat} (x : BitVec n) : nb x / (4096 : Int) = nb (x >>> 12) := nb_shr x 12
theorem nb_shr_13 {n : Nat} (x : BitVec n) : nb x / (8192 : Int) = nb (x >>> 13) := nb_shr x 13
theorem nb_shr_14 {n : Nat} (x : BitVec n) : nb x / (16384 : Int) = nb (x >>> 14) := nb_shr x 14
theorem nb_shr_15 {n : Nat} (x : BitVec n) : nb x / (32768 : Int) = nb (x >>> 15) := nb_shr x 15
theorem nb_shr_16 {n : Nat} (x : BitVec n) : nb x / (65536 : Int) = nb (x >>> 16) := nb_shr x 16
theorem nb_shr_17 {n : Nat} (x : BitVec n) : nb x / (131072 : Int) = nb (x >>> 17) := nb_shr x 17
theorem nb_shr_18 {n : Nat} (x : BitVec n) : nb x / (262144 : Int) = nb (x >>> 18) := nb_shr x 18
theorem nb_shr_19 {n : Nat} (x : BitVec n) : nb x / (524288 : Int) = nb (x >>> 19) := nb_shr x 19
theorem nb_shr_20 {n : Nat} (x : BitVec n) : nb x / (1048576 : Int) = nb (x >>> 20) := nb_shr x 20
theorem nb_shr_21 {n : Nat} (x : BitVec n) : nb x / (2097152 : Int) = nb (x >>> 21) := nb_shr x 21
theorem nb_shr_22 {n : Nat} (x : BitVec n) : nb x / (4194304 : Int) = nb (x >>> 22) := nb_shr x 22
theorem nb_shr_23 {n : Nat} (x : BitVec n) : nb x / (8388608 : Int) = nb (x >>> 23) := nb_shr x 23
theorem nb_shr_24 {n : Nat} (x : BitVec n) : nb x / (16777216 : Int) = nb (x >>> 24) := nb_shr x 24
theorem nb_shr_25 {n : Nat} (x : BitVec n) : nb x / (33554432 : Int) = nb (x >>> 25) := nb_shr x 25
theorem nb_shr_26 {n : Nat} (x : BitVec n) : nb x / (67108864 : Int) = nb (x >>> 26) := nb_shr x 26
theorem nb_shr_27 {n : Nat} (x : BitVec n) : nb x / (134217728 : Int) = nb (x >>> 27) := nb_shr x 27
theorem nb_shr_28 {n : Nat} (x : BitVec n) : nb x / (268435456 : Int) = nb (x >>> 28) := nb_shr x 28
theorem nb_shr_29 {n : Nat} (x : BitVec n) : nb x / (536870912 : Int) = nb (x >>> 29) := nb_shr x 29
theorem nb_shr_30 {n : Nat} (x : BitVec n) : nb x / (1073741824 : Int) = nb (x >>> 30) := nb_shr x 30
theorem nb_shr_31 {n : Nat} (x : BitVec n) : nb x / (2147483648 : Int) = nb (x >>> 31) := nb_shr x 31
theorem nb_shr_32 {n : Nat} (x : BitVec n) : nb x / (4294967296 : Int) = nb (x >>> 32) := nb_shr x 32
theorem nb_shr_33 {n : Nat} (x : BitVec n) : nb x / (8589934592 : Int) = nb (x >>> 33) := nb_shr x 33
theorem nb_shr_34 {n : Nat} (x : BitVec n) : nb x / (17179869184 : Int) = nb (x >>> 34) := nb_shr x 34
theorem nb_shr_35 {n : Nat} (x : BitVec n) : nb x / (34359738368 : Int) = nb (x >>> 35) := nb_shr x 35
theorem nb_shr_36 {n : Nat} (x : BitVec n) : nb x / (68719476736 : Int) = nb (x >>> 36) := nb_shr x 36
theorem nb_shr_37 {n : Nat} (x : BitVec n) : nb x / (137438953472 : Int) = nb (x >>> 37) := nb_shr x 37
theorem nb_shr_38 {n : Nat} (x : BitVec n) : nb x / (274877906944 : Int) = nb (x >>> 38) := nb_shr x 38
theorem nb_shr_39 {n : Nat} (x : BitVec n) : nb x / (549755813888 : Int) = nb (x >>> 39) := nb_shr x 39
theorem nb_shr_40 {n : Nat} (x : BitVec n) : nb x / (1099511627776 : Int) = nb (x >>> 40) := nb_shr x 40
theorem nb_shr_41 {n : Nat} (x : BitVec n) : nb x / (2199023255552 : Int) = nb (x >>> 41) := nb_shr x 41
theorem nb_shr_42 {n : Nat} (x : BitVec n) : nb x / (4398046511104 : Int) = nb (x >>> 42) := nb_shr x 42
theorem nb_shr_43 {n : Nat} (x : BitVec n) : nb x / (8796093022208 : Int) = nb (x >>> 43) := nb_shr x 43
theorem nb_shr_44 {n : Nat} (x : BitVec n) : nb x / (17592186044416 : Int) = nb (x >>> 44) := nb_shr x 44
theorem nb_shr_45 {n : Nat} (x : BitVec n) : nb x / (35184372088832 : Int) = nb (x >>> 45) := nb_shr x 45
theorem nb_shr_46 {n : Nat} (x : BitVec n) : nb x / (70368744177664 : Int) = nb (x >>> 46) := nb_shr x 46
theorem nb_shr_47 {n : Nat} (x : BitVec n) : nb x / (140737488355328 : Int) = nb (x >>> 47) := nb_shr x 47
theorem nb_shr_48 {n : Nat} (x : BitVec n) : nb x / (281474976710656 : Int) = nb (x >>> 48) := nb_shr x 48
theorem nb_shr_49 {n : Nat} (x : BitVec n) : nb x / (562949953421312 : Int) = nb (x >>> 49) := nb_shr x 49
theorem nb_shr_50 {n : Nat} (x : BitVec n) : nb x / (1125899906842624 : Int) = nb (x >>> 50) := nb_shr x 50
theorem nb_shr_51 {n : Nat} (x : BitVec n) : nb x / (2251799813685248 : Int) = nb (x >>> 51) := nb_shr x 51
theorem nb_shr_52 {n : Nat} (x : BitVec n) : nb x / (4503599627370496 : Int) = nb (x >>> 52) := nb_shr x 52
theorem nb_shr_53 {n : Nat} (x : BitVec n) : nb x / (9007199254740992 : Int) = nb (x >>> 53) := nb_shr x 53
theorem nb_shr_54 {n : Nat} (x : BitVec n) : nb x / (18014398509481984 : Int) = nb (x >>> 54) := nb_shr x 54
theorem nb_shr_55 {n : Nat} (x : BitVec n) : nb x / (36028797018963968 : Int) = nb (x >>> 55) := nb_shr x 55
theorem nb_shr_56 {n : Nat} (x : BitVec n) : nb x / (72057594037927936 : Int) = nb (x >>> 56) := nb_shr x 56
theorem nb_shr_57 {n : Nat} (x : BitVec n) : nb x / (144115188075855872 : Int) = nb (x >>> 57) := nb_shr x 57
theorem nb_shr_58 {n : Nat} (x : BitVec n) : nb x / (288230376151711744 : Int) = nb (x >>> 58) := nb_shr x 58
theorem nb_shr_59 {n : Nat} (x : BitVec n) : nb x / (576460752303423488 : Int) = nb (x >>> 59) := nb_shr x 59
theorem nb_shr_60 {n : Nat} (x : BitVec n) : nb x / (1152921504606846976 : Int) = nb (x >>> 60) := nb_shr x 60
theorem nb_shr_61 {n : Nat} (x : BitVec n) : nb x / (2305843009213693952 : Int) = nb (x >>> 61) := nb_shr x 61
theorem nb_shr_62 {n : Nat} (x : BitVec n) : nb x / (4611686018427387904 : Int) = nb (x >>> 62) := nb_shr x 62
theorem nb_shr_63 {n : Nat} (x : BitVec n) : nb x / (9223372036854775808 : Int) = nb (x >>> 63) := nb_shr x 63
theorem nb_mod2 {n : Nat} (x : BitVec n) : nb x % 2 = nb (x &&& 1#n) := by
  unfold nb; rw [BitVec.toNat_and, BitVec.toNat_ofNat]
  cases n with
  | zero => have := x.isLt; simp at this; simp [this]
  | succ n => rw [Nat.mod_eq_of_lt (by have := Nat.two_pow_pos n; rw [Nat.pow_succ]; omega), Nat.and_one_is_mod]; omega

theorem nb_tmod2 {n : Nat} (x : BitVec n) : (nb x).tmod 2 = nb (x &&& 1#n) := by
  rw [Int.tmod_eq_emod_of_nonneg (nb_nonneg x), nb_mod2]

/-! ### sums, differences, products of the kind u64 -/
theorem wrap_u64 (x : Int) : IntKind.u64.wrap x = x % 18446744073709551616 := IntKind.wrap_u64 x
theorem wrap_add64 (a b : BitVec 64) : IntKind.u64.wrap (nb a + nb b) = nb (a + b) := by
  rw [wrap_u64]; unfold nb; rw [BitVec.toNat_add]; omega
theorem wrap_mul64 (a b : BitVec 64) : IntKind.u64.wrap (nb a * nb b) = nb (a * b) := by
  rw [wrap_u64]; unfold nb; rw [BitVec.toNat_mul, Int.natCast_emod, Int.natCast_mul]; rfl
theorem wrap_sub64 (a b : BitVec 64) : IntKind.u64.wrap (nb a - nb b) = nb (a - b) := by
  rw [wrap_u64]; unfold nb; rw [BitVec.toNat_sub]; have := a.isLt; have := b.isLt; omega
theorem lit64 (n : Nat) (h : n < 18446744073709551616) : ((no_index (OfNat.ofNat n) : Nat) : Int) = nb (BitVec.ofNat 64 n) := by
  rw [nb_ofNat _ h]; rfl
theorem lit64' (n : Nat) (h : n < 18446744073709551616) : (no_index (OfNat.ofNat n) : Int) = nb (BitVec.ofNat 64 n) := by
  rw [nb_ofNat _ h]; rfl
theorem wrap_addl64 (a : BitVec 64) (n : Nat) (h : n < 18446744073709551616) : IntKind.u64.wrap (nb a + (no_index (OfNat.ofNat n) : Int)) = nb (a + BitVec.ofNat 64 n) := by
  rw [lit64' n h, wrap_add64]
theorem wrap_mull64 (a : BitVec 64) (n : Nat) (h : n < 18446744073709551616) : IntKind.u64.wrap (nb a * (no_index (OfNat.ofNat n) : Int)) = nb (a * BitVec.ofNat 64 n) := by
  rw [lit64' n h, wrap_mul64]
theorem wrap_subl64 (a : BitVec 64) (n : Nat) (h : n < 18446744073709551616) : IntKind.u64.wrap (nb a - (no_index (OfNat.ofNat n) : Int)) = nb (a - BitVec.ofNat 64 n) := by
  rw [lit64' n h, wrap_sub64]

/-! ### bitwise -/
theorem bits_raw64 (op : Nat → Nat → Nat) (f : BitVec 64 → BitVec 64 → BitVec 64) (hf : ∀ a b, (f a b).toNat = op a.toNat b.toNat) {m k : Nat} (a : BitVec m) (b : BitVec k) (hm : m ≤ 64) (hk : k ≤ 64) :
    ((op a.toNat b.toNat : Nat) : Int) = nb (f (a.setWidth 64) (b.setWidth 64)) := by
  unfold nb
  rw [hf, BitVec.toNat_setWidth, BitVec.toNat_setWidth, Nat.mod_eq_of_lt (Nat.lt_of_lt_of_le a.isLt (Nat.pow_le_pow_right (by omega) hm)),
    Nat.mod_eq_of_lt (Nat.lt_of_lt_of_le b.isLt (Nat.pow_le_pow_right (by omega) hk))]
theorem toNat_lt_of {m : Nat} (a : BitVec m) {n : Nat} (h : m ≤ n) : a.toNat < 2 ^ n := Nat.lt_of_lt_of_le a.isLt (Nat.pow_le_pow_right (by omega) h)
theorem bits_xor64 {m k : Nat} (a : BitVec m) (b : BitVec k) (hm : m ≤ 64) (hk : k ≤ 64) : bits .xor .u64 (nb a) (nb b) = nb (a.setWidth 64 ^^^ b.setWidth 64) := by
  unfold nb
  rw [u64_xor_nat _ _ (toNat_lt_of a hm) (toNat_lt_of b hk)]
  exact bits_raw64 (· ^^^ ·) (· ^^^ ·) (fun a b => BitVec.toNat_xor a b) a b hm hk
theorem bits_or64 {m k : Nat} (a : BitVec m) (b : BitVec k) (hm : m ≤ 64) (hk : k ≤ 64) : bits .or .u64 (nb a) (nb b) = nb (a.setWidth 64 ||| b.setWidth 64) := by
  unfold nb
  rw [u64_or_nat _ _ (toNat_lt_of a hm) (toNat_lt_of b hk)]
  exact bits_raw64 (· ||| ·) (· ||| ·) (fun a b => BitVec.toNat_or a b) a b hm hk
theorem bits_and64 {m k : Nat} (a : BitVec m) (b : BitVec k) (hm : m ≤ 64) (hk : k ≤ 64) : bits .and .u64 (nb a) (nb b) = nb (a.setWidth 64 &&& b.setWidth 64) := by
  unfold nb
  rw [u64_and_nat _ _ (toNat_lt_of a hm) (toNat_lt_of b hk)]
  exact bits_raw64 (· &&& ·) (· &&& ·) (fun a b => BitVec.toNat_and a b) a b hm hk
theorem bits_xor32 {m k : Nat} (a : BitVec m) (b : BitVec k) (hm : m ≤ 32) (hk : k ≤ 32) : bits .xor .u32 (nb a) (nb b) = nb (a.setWidth 32 ^^^ b.setWidth 32) := by
  unfold nb
  rw [u32_xor_nat _ _ (toNat_lt_of a hm) (toNat_lt_of b hk), BitVec.toNat_xor, BitVec.toNat_setWidth, BitVec.toNat_setWidth, Nat.mod_eq_of_lt (toNat_lt_of a hm), Nat.mod_eq_of_lt (toNat_lt_of b hk)]
theorem bits_and32 {m k : Nat} (a : BitVec m) (b : BitVec k) (hm : m ≤ 32) (hk : k ≤ 32) : bits .and .u32 (nb a) (nb b) = nb (a.setWidth 32 &&& b.setWidth 32) := by
  unfold nb
  rw [u32_and_nat _ _ (toNat_lt_of a hm) (toNat_lt_of b hk), BitVec.toNat_and, BitVec.toNat_setWidth, BitVec.toNat_setWidth, Nat.mod_eq_of_lt (toNat_lt_of a hm), Nat.mod_eq_of_lt (toNat_lt_of b hk)]
theorem bits_or32 {m k : Nat} (a : BitVec m) (b : BitVec k) (hm : m ≤ 32) (hk : k ≤ 32) : bits .or .u32 (nb a) (nb b) = nb (a.setWidth 32 ||| b.setWidth 32) := by
  unfold nb
  rw [u32_or_nat _ _ (toNat_lt_of a hm) (toNat_lt_of b hk), BitVec.toNat_or, BitVec.toNat_setWidth, BitVec.toNat_setWidth, Nat.mod_eq_of_lt (toNat_lt_of a hm), Nat.mod_eq_of_lt (toNat_lt_of b hk)]
theorem bits_xor8 (a b : BitVec 8) : bits .xor .u8 (nb a) (nb b) = nb (a ^^^ b) := by
  unfold nb; rw [u8_xor_nat _ _ a.isLt b.isLt, BitVec.toNat_xor]
theorem bits_and8 (a b : BitVec 8) : bits .and .u8 (nb a) (nb b) = nb (a &&& b) := by
  unfold nb; rw [u8_and_nat _ _ a.isLt b.isLt, BitVec.toNat_and]
theorem bits_or8 (a b : BitVec 8) : bits .or .u8 (nb a) (nb b) = nb (a ||| b) := by
  unfold nb; rw [u8_or_nat _ _ a.isLt b.isLt, BitVec.toNat_or]
theorem bits_and8l (a : BitVec 8) (n : Nat) (h : n < 256) : bits .and .u8 (nb a) (no_index (OfNat.ofNat n) : Int) = nb (a &&& BitVec.ofNat 8 n) := by
  rw [← bits_and8, nb_ofNat _ h]; rfl
theorem bits_or8l (a : BitVec 8) (n : Nat) (h : n < 256) : bits .or .u8 (nb a) (no_index (OfNat.ofNat n) : Int) = nb (a ||| BitVec.ofNat 8 n) := by
  rw [← bits_or8, nb_ofNat _ h]; rfl
theorem bits_and32l (a : BitVec 32) (n : Nat) (h : n < 4294967296) : bits .and .u32 (nb a) (no_index (OfNat.ofNat n) : Int) = nb (a &&& BitVec.ofNat 32 n) := by
  have := bits_and32 a (BitVec.ofNat 32 n) (Nat.le_refl _) (Nat.le_refl _)
  rw [nb_ofNat _ h, BitVec.setWidth_eq, BitVec.setWidth_eq] at this
  exact this
theorem bits_xor32l (a : BitVec 32) (n : Nat) (h : n < 4294967296) : bits .xor .u32 (nb a) (no_index (OfNat.ofNat n) : Int) = nb (a ^^^ BitVec.ofNat 32 n) := by
  have := bits_xor32 a (BitVec.ofNat 32 n) (Nat.le_refl _) (Nat.le_refl _)
  rw [nb_ofNat _ h, BitVec.setWidth_eq, BitVec.setWidth_eq] at this
  exact this
theorem bits_not32 (a : BitVec 32) : bits .xor .u32 IntKind.u32.max (nb a) = nb (~~~ a) := by
  have h : IntKind.u32.max = nb (BitVec.allOnes 32) := by decide
  rw [h, bits_xor32 _ _ (Nat.le_refl _) (Nat.le_refl _), BitVec.setWidth_eq, BitVec.setWidth_eq, BitVec.allOnes_xor]
theorem bits_not64 (a : BitVec 64) : bits .xor .u64 IntKind.u64.max (nb a) = nb (~~~ a) := by
  have h : IntKind.u64.max = nb (BitVec.allOnes 64) := by decide
  rw [h, bits_xor64 _ _ (Nat.le_refl _) (Nat.le_refl _), BitVec.setWidth_eq, BitVec.setWidth_eq, BitVec.allOnes_xor]

/-- What the walk's simp is given, file by file: 'attribute [local go_sem] ..'. -/
theorem setWidth_self {n : Nat} (x : BitVec n) : x.setWidth n = x := BitVec.setWidth_eq x

end Go.Proofs.Ytoidlmhebnlnbaa
