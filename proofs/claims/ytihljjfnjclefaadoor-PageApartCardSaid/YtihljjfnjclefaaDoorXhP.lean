/- The hash, in plain Lean. No program in sight. -/
import Derived.Test.YtihljjfnjclefaaDoorM
set_option linter.unusedVariables false
set_option linter.unusedSimpArgs false
namespace Go.Proofs.YtihljjfnjclefaaDoor

def P1 : BitVec 64 := 11400714785074694791#64
def P2 : BitVec 64 := 14029467366897019727#64
def P3 : BitVec 64 := 1609587929392839161#64
def P4 : BitVec 64 := 9650029242287828579#64
def P5 : BitVec 64 := 2870177450012600261#64
/-- A word turned left. -/
def xrot (x : BitVec 64) (n : Nat) : BitVec 64 := x <<< n ||| x >>> (64 - n)
def xround (a w : BitVec 64) : BitVec 64 := xrot (a + w * 14029467366897019727#64) 31 * 11400714785074694791#64
def xmerge (h a : BitVec 64) : BitVec 64 := (h ^^^ xround 0#64 a) * 11400714785074694791#64 + 9650029242287828579#64
def xaval1 (h : BitVec 64) : BitVec 64 := (h ^^^ h >>> 33) * 14029467366897019727#64
def xaval2 (h : BitVec 64) : BitVec 64 := (h ^^^ h >>> 29) * 1609587929392839161#64
def xaval (h : BitVec 64) : BitVec 64 := xaval2 (xaval1 h) ^^^ (xaval2 (xaval1 h)) >>> 32
/-- The first bytes as a word, the lowest first. -/
def xword : List Byte → BitVec 64
  | [] => 0#64
  | b :: bs => b.setWidth 64 ||| (xword bs) <<< 8
def xlane (a : BitVec 64) (xs : List Byte) : BitVec 64 := xround a (xword (xs.take 8))
/-- So many bits as may be. -/
def xclip (n : Int) : Nat := (min 64 (max 0 n)).toNat
def xlow (h : BitVec 64) (n : Nat) : BitVec 64 := h &&& ~~~ (18446744073709551615#64 <<< n)
def xhigh (h : BitVec 64) (n : Nat) : BitVec 64 := h >>> (64 - n)

/-- The four lanes, of which the first j have taken their word. -/
def xpart (l : List (BitVec 64)) (ys : List Byte) : Nat → List (BitVec 64)
  | 0 => l
  | j + 1 => (xpart l ys j).set j (xround ((xpart l ys j).getD j 0#64) (xword ((ys.drop (8 * j)).take 8)))
theorem xpart_len (l : List (BitVec 64)) (ys : List Byte) (j : Nat) : (xpart l ys j).length = l.length := by
  induction j with
  | zero => rfl
  | succ j ih => simp [xpart, ih]
def xstart (s : BitVec 64) : List (BitVec 64) := [s + 11400714785074694791#64 + 14029467366897019727#64, s + 14029467366897019727#64, s, s - 11400714785074694791#64]
def xlanes (l : List (BitVec 64)) : BitVec 64 := xrot (l.getD 0 0#64) 1 + xrot (l.getD 1 0#64) 7 + xrot (l.getD 2 0#64) 12 + xrot (l.getD 3 0#64) 18
def xout (l : List (BitVec 64)) : BitVec 64 := l.foldl xmerge (xlanes l)
def xstep8 (h w : BitVec 64) : BitVec 64 := xrot (h ^^^ xround 0#64 w) 27 * 11400714785074694791#64 + 9650029242287828579#64
def xstep4 (h w : BitVec 64) : BitVec 64 := xrot (h ^^^ w * 11400714785074694791#64) 23 * 14029467366897019727#64 + 1609587929392839161#64
def xstep1 (h : BitVec 64) (c : Byte) : BitVec 64 := xrot (h ^^^ c.setWidth 64 * 2870177450012600261#64) 11 * 11400714785074694791#64
def x1s (h : BitVec 64) (xs : List Byte) : BitVec 64 := xs.foldl xstep1 h
def x4s (h : BitVec 64) (xs : List Byte) : BitVec 64 := if 4 ≤ xs.length then x1s (xstep4 h (xword (xs.take 4))) (xs.drop 4) else x1s h xs
def x8s (h : BitVec 64) (xs : List Byte) : BitVec 64 :=
  if 8 ≤ xs.length then x8s (xstep8 h (xword (xs.take 8))) (xs.drop 8) else x4s h xs
termination_by xs.length
decreasing_by simp; omega
def x32s (l : List (BitVec 64)) (n : BitVec 64) (xs : List Byte) : BitVec 64 :=
  if 32 ≤ xs.length then x32s (xpart l xs 4) n (xs.drop 32) else xaval (x8s (xout l + n) xs)
termination_by xs.length
decreasing_by simp; omega
theorem x8s_ge {h : BitVec 64} {xs : List Byte} (hx : 8 ≤ xs.length) : x8s h xs = x8s (xstep8 h (xword (xs.take 8))) (xs.drop 8) := by
  conv => lhs; unfold x8s
  rw [if_pos hx]
theorem x8s_lt {h : BitVec 64} {xs : List Byte} (hx : ¬ 8 ≤ xs.length) : x8s h xs = x4s h xs := by
  conv => lhs; unfold x8s
  rw [if_neg hx]
theorem x32s_ge {l : List (BitVec 64)} {n : BitVec 64} {xs : List Byte} (hx : 32 ≤ xs.length) : x32s l n xs = x32s (xpart l xs 4) n (xs.drop 32) := by
  conv => lhs; unfold x32s
  rw [if_pos hx]
theorem x32s_lt {l : List (BitVec 64)} {n : BitVec 64} {xs : List Byte} (hx : ¬ 32 ≤ xs.length) : x32s l n xs = xaval (x8s (xout l + n) xs) := by
  conv => lhs; unfold x32s
  rw [if_neg hx]
/-- The hash of bytes. -/
def xsum (s : BitVec 64) (xs : List Byte) : BitVec 64 :=
  if 32 ≤ xs.length then x32s (xstart s) (BitVec.ofNat 64 xs.length) xs else xaval (x8s (s + 2870177450012600261#64 + BitVec.ofNat 64 xs.length) xs)

/-! ### the number of a word that is shifted -/
theorem wrap_shl (x : BitVec 64) (k : Nat) : IntKind.u64.wrap (nb x * 2 ^ k) = nb (x <<< k) := by
  rw [wrap_u64]; unfold nb; rw [BitVec.toNat_shiftLeft, Nat.shiftLeft_eq]
  rw [Int.natCast_emod, Int.natCast_mul]; simp
theorem nb_shrk {n : Nat} (x : BitVec n) (k : Nat) : nb x / 2 ^ k = nb (x >>> k) := by
  have := nb_shr x k
  rw [← this]; simp
theorem sub64 (k : Nat) (h : k ≤ 64) : ((64 : Int) - k).toNat = 64 - k := by omega
theorem and63 (k : Nat) (h : k < 64) : bits .and .u64 (k : Int) 63 = k := by
  have := bits_and64 (BitVec.ofNat 64 k) 63#64 (Nat.le_refl _) (Nat.le_refl _)
  rw [nb_ofNat _ (by omega), nb_ofNat _ (by omega)] at this
  rw [show ((63 : Int)) = ((63 : Nat) : Int) from rfl, this]
  unfold nb
  simp
  rw [show (63 : Nat) = 2 ^ 6 - 1 from rfl, Nat.and_two_pow_sub_one_eq_mod]
  omega


theorem or_add8 (b : Byte) (y : BitVec 64) : b.setWidth 64 ||| y <<< 8 = b.setWidth 64 + y <<< 8 := by
  rw [BitVec.add_eq_or_of_and_eq_zero]
  ext i hi
  by_cases h8 : i < 8
  · simp [h8]
  · simp [BitVec.getLsbD_of_ge b i (by omega)]
theorem shl_add (a b : BitVec 64) (k : Nat) : (a + b) <<< k = a <<< k + b <<< k := by
  rw [BitVec.shiftLeft_eq_mul_twoPow, BitVec.shiftLeft_eq_mul_twoPow, BitVec.shiftLeft_eq_mul_twoPow, BitVec.add_mul]
theorem xword_add (xs : List Byte) (b : Byte) : xword (xs ++ [b]) = xword xs + (b.setWidth 64) <<< (8 * xs.length) := by
  induction xs with
  | nil => simp [xword]
  | cons x xs ih =>
    rw [List.cons_append, xword, ih, xword, or_add8, or_add8, shl_add, ← BitVec.add_assoc]
    congr 1
    rw [List.length_cons, show 8 * (xs.length + 1) = 8 * xs.length + 8 by omega, BitVec.shiftLeft_add]
end Go.Proofs.YtihljjfnjclefaaDoor
