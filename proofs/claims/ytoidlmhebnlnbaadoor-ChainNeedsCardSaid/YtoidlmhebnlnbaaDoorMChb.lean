/- Walks and laws that the claim's last text stands on, several texts in one file: XhP, PgP, PgQ, Tb, Mp, Ts, Kit, OctA, Dsk. Under the hypotheses that each theorem states. -/
import Derived.Maps.AppendAt
import Derived.MapKept
import Derived.ChangeMaps4
import Derived.Lib.SliceRun
import Derived.Lib.AppendZeros
import Derived.Test.YtoidlmhebnlnbaaDoorMCha
/- The hash, in plain Lean. No program in sight. -/
set_option linter.unusedVariables false
set_option linter.unusedSimpArgs false
namespace Go.Proofs.YtoidlmhebnlnbaaDoor

def P1 : BitVec 64 := 11400714785074694791#64
def P2 : BitVec 64 := 14029467366897019727#64
def P3 : BitVec 64 := 1609587929392839161#64
def P4 : BitVec 64 := 9650029242287828579#64
def P5 : BitVec 64 := 2870177450012600261#64
/-- A word turned left. -/
def xrot (x : BitVec 64) (n : Nat) : BitVec 64 := x <<< n ||| x >>> (64 - n)
def xround (a w : BitVec 64) : BitVec 64 := xrot (a + w * 14029467366897019727#64) 31 * 11400714785074694791#64
def xmerge (h a : BitVec 64) : BitVec 64 := (h ^^^ xround 0#64 a) * 11400714785074694791#64 + 9650029242287828579#64
def xaval1 (h : BitVec 64) : BitVec 64 := (h ^^^ h >>> 33) * 14029467366897019727#64
def xaval2 (h : BitVec 64) : BitVec 64 := (h ^^^ h >>> 29) * 1609587929392839161#64
def xaval (h : BitVec 64) : BitVec 64 := xaval2 (xaval1 h) ^^^ (xaval2 (xaval1 h)) >>> 32
/-- The first bytes as a word, the lowest first. -/
def xword : List Byte → BitVec 64
  | [] => 0#64
  | b :: bs => b.setWidth 64 ||| (xword bs) <<< 8
def xlane (a : BitVec 64) (xs : List Byte) : BitVec 64 := xround a (xword (xs.take 8))
/-- So many bits as may be. -/
def xclip (n : Int) : Nat := (min 64 (max 0 n)).toNat
def xlow (h : BitVec 64) (n : Nat) : BitVec 64 := h &&& ~~~ (18446744073709551615#64 <<< n)
def xhigh (h : BitVec 64) (n : Nat) : BitVec 64 := h >>> (64 - n)

/-- The four lanes, of which the first j have taken their word. -/
def xpart (l : List (BitVec 64)) (ys : List Byte) : Nat → List (BitVec 64)
  | 0 => l
  | j + 1 => (xpart l ys j).set j (xround ((xpart l ys j).getD j 0#64) (xword ((ys.drop (8 * j)).take 8)))
theorem xpart_len (l : List (BitVec 64)) (ys : List Byte) (j : Nat) : (xpart l ys j).length = l.length := by
  induction j with
  | zero => rfl
  | succ j ih => simp [xpart, ih]
def xstart (s : BitVec 64) : List (BitVec 64) := [s + 11400714785074694791#64 + 14029467366897019727#64, s + 14029467366897019727#64, s, s - 11400714785074694791#64]
def xlanes (l : List (BitVec 64)) : BitVec 64 := xrot (l.getD 0 0#64) 1 + xrot (l.getD 1 0#64) 7 + xrot (l.getD 2 0#64) 12 + xrot (l.getD 3 0#64) 18
def xout (l : List (BitVec 64)) : BitVec 64 := l.foldl xmerge (xlanes l)
def xstep8 (h w : BitVec 64) : BitVec 64 := xrot (h ^^^ xround 0#64 w) 27 * 11400714785074694791#64 + 9650029242287828579#64
def xstep4 (h w : BitVec 64) : BitVec 64 := xrot (h ^^^ w * 11400714785074694791#64) 23 * 14029467366897019727#64 + 1609587929392839161#64
def xstep1 (h : BitVec 64) (c : Byte) : BitVec 64 := xrot (h ^^^ c.setWidth 64 * 2870177450012600261#64) 11 * 11400714785074694791#64
def x1s (h : BitVec 64) (xs : List Byte) : BitVec 64 := xs.foldl xstep1 h
def x4s (h : BitVec 64) (xs : List Byte) : BitVec 64 := if 4 ≤ xs.length then x1s (xstep4 h (xword (xs.take 4))) (xs.drop 4) else x1s h xs
def x8s (h : BitVec 64) (xs : List Byte) : BitVec 64 :=
  if 8 ≤ xs.length then x8s (xstep8 h (xword (xs.take 8))) (xs.drop 8) else x4s h xs
termination_by xs.length
decreasing_by simp; omega
def x32s (l : List (BitVec 64)) (n : BitVec 64) (xs : List Byte) : BitVec 64 :=
  if 32 ≤ xs.length then x32s (xpart l xs 4) n (xs.drop 32) else xaval (x8s (xout l + n) xs)
termination_by xs.length
decreasing_by simp; omega
theorem x8s_ge {h : BitVec 64} {xs : List Byte} (hx : 8 ≤ xs.length) : x8s h xs = x8s (xstep8 h (xword (xs.take 8))) (xs.drop 8) := by
  conv => lhs; unfold x8s
  rw [if_pos hx]
theorem x8s_lt {h : BitVec 64} {xs : List Byte} (hx : ¬ 8 ≤ xs.length) : x8s h xs = x4s h xs := by
  conv => lhs; unfold x8s
  rw [if_neg hx]
theorem x32s_ge {l : List (BitVec 64)} {n : BitVec 64} {xs : List Byte} (hx : 32 ≤ xs.length) : x32s l n xs = x32s (xpart l xs 4) n (xs.drop 32) := by
  conv => lhs; unfold x32s
  rw [if_pos hx]
theorem x32s_lt {l : List (BitVec 64)} {n : BitVec 64} {xs : List Byte} (hx : ¬ 32 ≤ xs.length) : x32s l n xs = xaval (x8s (xout l + n) xs) := by
  conv => lhs; unfold x32s
  rw [if_neg hx]
/-- The hash of bytes. -/
def xsum (s : BitVec 64) (xs : List Byte) : BitVec 64 :=
  if 32 ≤ xs.length then x32s (xstart s) (BitVec.ofNat 64 xs.length) xs else xaval (x8s (s + 2870177450012600261#64 + BitVec.ofNat 64 xs.length) xs)

/-! ### the number of a word that is shifted -/
theorem wrap_shl (x : BitVec 64) (k : Nat) : IntKind.u64.wrap (nb x * 2 ^ k) = nb (x <<< k) := by
  rw [wrap_u64]; unfold nb; rw [BitVec.toNat_shiftLeft, Nat.shiftLeft_eq]
  rw [Int.natCast_emod, Int.natCast_mul]; simp
theorem nb_shrk {n : Nat} (x : BitVec n) (k : Nat) : nb x / 2 ^ k = nb (x >>> k) := by
  have := nb_shr x k
  rw [← this]; simp
theorem sub64 (k : Nat) (h : k ≤ 64) : ((64 : Int) - k).toNat = 64 - k := by omega
theorem and63 (k : Nat) (h : k < 64) : bits .and .u64 (k : Int) 63 = k := by
  have := bits_and64 (BitVec.ofNat 64 k) 63#64 (Nat.le_refl _) (Nat.le_refl _)
  rw [nb_ofNat _ (by omega), nb_ofNat _ (by omega)] at this
  rw [show ((63 : Int)) = ((63 : Nat) : Int) from rfl, this]
  unfold nb
  simp
  rw [show (63 : Nat) = 2 ^ 6 - 1 from rfl, Nat.and_two_pow_sub_one_eq_mod]
  omega


theorem or_add8 (b : Byte) (y : BitVec 64) : b.setWidth 64 ||| y <<< 8 = b.setWidth 64 + y <<< 8 := by
  rw [BitVec.add_eq_or_of_and_eq_zero]
  ext i hi
  by_cases h8 : i < 8
  · simp [h8]
  · simp [BitVec.getLsbD_of_ge b i (by omega)]
theorem shl_add (a b : BitVec 64) (k : Nat) : (a + b) <<< k = a <<< k + b <<< k := by
  rw [BitVec.shiftLeft_eq_mul_twoPow, BitVec.shiftLeft_eq_mul_twoPow, BitVec.shiftLeft_eq_mul_twoPow, BitVec.add_mul]
theorem xword_add (xs : List Byte) (b : Byte) : xword (xs ++ [b]) = xword xs + (b.setWidth 64) <<< (8 * xs.length) := by
  induction xs with
  | nil => simp [xword]
  | cons x xs ih =>
    rw [List.cons_append, xword, ih, xword, or_add8, or_add8, shl_add, ← BitVec.add_assoc]
    congr 1
    rw [List.length_cons, show 8 * (xs.length + 1) = 8 * xs.length + 8 by omega, BitVec.shiftLeft_add]
end Go.Proofs.YtoidlmhebnlnbaaDoor
/- page, plain: the bytes of a page; reading them; a byte that is changed. -/
set_option linter.unusedVariables false
set_option linter.unusedSimpArgs false
namespace Go.Proofs.YtoidlmhebnlnbaaDoor

theorem pg_xword_bit (q : Nat) : ∀ (n : BitVec 64), 8 * q ≤ 64 → ∀ j, (xword (oword q n)).getLsbD j = (decide (j < 8 * q) && n.getLsbD j) := by
  induction q with
  | zero => intro n h j; simp [oword, xword]
  | succ q ih =>
    intro n h j
    rw [oword, xword]
    simp only [BitVec.getLsbD_or, BitVec.getLsbD_setWidth, BitVec.getLsbD_shiftLeft, ih (n >>> 8) (by omega), BitVec.getLsbD_ushiftRight]
    by_cases h8 : j < 8
    · simp [h8, show j < 64 by omega, show j < 8 * (q + 1) by omega]
    · rcases Nat.lt_or_ge j 64 with h64 | h64
      · rw [show 8 + (j - 8) = j by omega]
        by_cases hq : j < 8 * (q + 1)
        · simp [h8, h64, hq, show j - 8 < 8 * q by omega]
        · simp [h8, h64, hq, show ¬ j - 8 < 8 * q by omega]
      · rw [BitVec.getLsbD_of_ge n j h64]
        simp [h8, show ¬ j < 64 by omega]
/-- A word that was written is read: modulo what its bytes hold. -/
theorem pg_xword (q : Nat) (n : BitVec 64) (h : 8 * q ≤ 64) : (xword (oword q n)).toNat = n.toNat % 2 ^ (8 * q) := by
  have e : xword (oword q n) = (n.setWidth (8 * q)).setWidth 64 := by
    apply BitVec.eq_of_getLsbD_eq
    intro j hj
    rw [pg_xword_bit q n h, BitVec.getLsbD_setWidth, BitVec.getLsbD_setWidth]
    simp [hj]
  rw [e, BitVec.toNat_setWidth, BitVec.toNat_setWidth]
  refine Nat.mod_eq_of_lt (Nat.lt_of_lt_of_le (Nat.mod_lt _ (Nat.two_pow_pos _)) (Nat.pow_le_pow_right (by omega) h))
def z4 : List Byte := [0#8, 0#8, 0#8, 0#8]
def pgHd (k : Byte) (n : BitVec 32) : List Byte := [0x54#8, 0x4d#8, 1#8, k] ++ oword 4 (n.setWidth 64) ++ z4
def pgPad (x : List Byte) : List Byte := x ++ List.replicate (4080 - x.length) 0#8
def pgSum (k : Byte) (n : BitVec 32) (x : List Byte) : BitVec 32 := crcSum (pgHd k n ++ (z4 ++ pgPad x))
def pgBytes (k : Byte) (n : BitVec 32) (x : List Byte) : List Byte := pgHd k n ++ (oword 4 ((pgSum k n x).setWidth 64) ++ pgPad x)
def pgOk (K : Int) (x : List Byte) : Bool := decide (1 ≤ K) && decide (K ≤ 7) && decide (x.length ≤ 4080)
theorem pgOk_iff {K : Int} {x : List Byte} : pgOk K x = true ↔ 1 ≤ K ∧ K ≤ 7 ∧ x.length ≤ 4080 := by
  unfold pgOk
  simp only [Bool.and_eq_true, decide_eq_true_eq]
  exact ⟨fun h => ⟨h.1.1, h.1.2, h.2⟩, fun h => ⟨⟨h.1, h.2.1⟩, h.2.2⟩⟩
def pgB (K : Int) (n : BitVec 32) (x : List Byte) : List Byte × Int := if pgOk K x then (pgBytes (BitVec.ofInt 8 K) n x, 0) else ([], 2)
def pgKd (b : List Byte) : Int := nb (b.getD 3 0#8)
def pgNm (b : List Byte) : BitVec 32 := (xword ((b.drop 4).take 4)).setWidth 32
def pgR (b : List Byte) : (Int × BitVec 32 × List Byte) × Int :=
  if b.length = 4096 ∧ pgB (pgKd b) (pgNm b) (b.drop 16) = (b, 0) then ((pgKd b, pgNm b, b.drop 16), 0) else ((0, 0#32, []), 4)

theorem pgHd_len (k : Byte) (n : BitVec 32) : (pgHd k n).length = 12 := by simp [pgHd, oword_len, z4]
theorem pgPad_len {x : List Byte} (h : x.length ≤ 4080) : (pgPad x).length = 4080 := by simp [pgPad]; omega
theorem pgPad_pad {x : List Byte} (h : x.length = 4080) : pgPad x = x := by simp [pgPad, h]
theorem pgBytes_len (k : Byte) (n : BitVec 32) {x : List Byte} (h : x.length ≤ 4080) : (pgBytes k n x).length = 4096 := by
  simp [pgBytes, pgHd_len, oword_len, pgPad_len h]
theorem pgBytes_pad (k : Byte) (n : BitVec 32) {x : List Byte} (h : x.length ≤ 4080) : pgBytes k n (pgPad x) = pgBytes k n x := by
  have e := pgPad_pad (pgPad_len h)
  unfold pgBytes pgSum
  rw [e]
theorem pgBytes_take (k : Byte) (n : BitVec 32) (x : List Byte) : (pgBytes k n x).take 12 = pgHd k n := by
  unfold pgBytes; rw [List.take_append_of_le_length (by rw [pgHd_len]; omega), List.take_of_length_le (by rw [pgHd_len]; omega)]
theorem pgBytes_drop12 (k : Byte) (n : BitVec 32) (x : List Byte) : (pgBytes k n x).drop 12 = oword 4 ((pgSum k n x).setWidth 64) ++ pgPad x := by
  unfold pgBytes
  rw [List.drop_append_of_le_length (by rw [pgHd_len]; omega), List.drop_of_length_le (by rw [pgHd_len]; omega), List.nil_append]
theorem pgBytes_drop (k : Byte) (n : BitVec 32) (x : List Byte) : (pgBytes k n x).drop 16 = pgPad x := by
  rw [show 16 = 12 + 4 from rfl, ← List.drop_drop, pgBytes_drop12]
  rw [List.drop_append_of_le_length (by rw [oword_len]; omega), List.drop_of_length_le (by rw [oword_len]; omega), List.nil_append]
theorem pgKd_bytes (k : Byte) (n : BitVec 32) (x : List Byte) : pgKd (pgBytes k n x) = nb k := rfl
theorem pgNm_bytes (k : Byte) (n : BitVec 32) (x : List Byte) : pgNm (pgBytes k n x) = n := by
  have e : ((pgBytes k n x).drop 4).take 4 = oword 4 (n.setWidth 64) := by
    unfold pgBytes pgHd
    rw [List.append_assoc, List.append_assoc, List.drop_append_of_le_length (by simp), List.drop_of_length_le (by simp), List.nil_append, List.take_append_of_le_length (by rw [oword_len]; omega), List.take_of_length_le (by rw [oword_len]; omega)]
  unfold pgNm
  rw [e]
  apply BitVec.eq_of_toNat_eq
  rw [BitVec.toNat_setWidth, pg_xword 4 _ (by omega), BitVec.toNat_setWidth]
  have := n.isLt
  omega
theorem nb_kind {K : Int} (h : 1 ≤ K ∧ K ≤ 7) : nb (BitVec.ofInt 8 K) = K := nb_ofInt _ (by omega) (by omega)
theorem pgR_bytes {K : Int} {n : BitVec 32} {x : List Byte} (h : pgOk K x = true) : pgR (pgBytes (BitVec.ofInt 8 K) n x) = ((K, n, pgPad x), 0) := by
  have o := pgOk_iff.1 h
  have ek : pgKd (pgBytes (BitVec.ofInt 8 K) n x) = K := by rw [pgKd_bytes, nb_kind ⟨o.1, o.2.1⟩]
  unfold pgR
  rw [ek, pgNm_bytes, pgBytes_drop, if_pos]
  refine ⟨pgBytes_len _ _ o.2.2, ?_⟩
  unfold pgB
  rw [if_pos (pgOk_iff.2 ⟨o.1, o.2.1, by rw [pgPad_len o.2.2]; omega⟩), pgBytes_pad _ _ o.2.2]
theorem pgR_ok {b : List Byte} {p : Int × BitVec 32 × List Byte} (h : pgR b = (p, 0)) : pgB p.1 p.2.1 p.2.2 = (b, 0) ∧ b.length = 4096 := by
  unfold pgR at h
  split at h
  · rename_i hc
    obtain rfl : p = _ := (congrArg Prod.fst h).symm
    exact ⟨hc.2, hc.1⟩
  · have := congrArg Prod.snd h; simp at this
/-- The sum stands where it should. -/
theorem pgB_sum {K : Int} {n : BitVec 32} {x b : List Byte} (h : pgB K n x = (b, 0)) : b.length = 4096 ∧ (b.drop 12).take 4 = oword 4 ((crcSum (b.take 12 ++ (z4 ++ b.drop 16))).setWidth 64) := by
  unfold pgB at h
  split at h
  · rename_i ho
    have o := pgOk_iff.1 ho
    obtain rfl : b = _ := (congrArg Prod.fst h).symm
    refine ⟨pgBytes_len _ _ o.2.2, ?_⟩
    rw [pgBytes_take, pgBytes_drop, pgBytes_drop12, List.take_append_of_le_length (by rw [oword_len]; omega), List.take_of_length_le (by rw [oword_len]; omega)]
    rfl
  · have := congrArg Prod.snd h; simp at this
theorem oword4_inj {x y : BitVec 32} (h : oword 4 (x.setWidth 64) = oword 4 (y.setWidth 64)) : x = y := by
  have e := congrArg (fun l => (xword l).toNat) h
  simp only [pg_xword 4 _ (show 8 * 4 ≤ 64 by omega), BitVec.toNat_setWidth] at e
  apply BitVec.eq_of_toNat_eq
  have := x.isLt; have := y.isLt
  omega
theorem xors_set (l : List Byte) (i : Nat) (d : Byte) (h : i < l.length) : xors (l.set i (l[i] ^^^ d)) l = List.replicate i 0#8 ++ [d] ++ List.replicate (l.length - i - 1) 0#8 := by
  apply List.ext_getElem
  · simp [xors]; omega
  · intro j h1 h2
    simp only [xors, List.getElem_zipWith, List.getElem_set]
    by_cases e : i = j
    · subst e
      rw [if_pos rfl, List.getElem_append_left (by simp), List.getElem_append_right (by simp)]
      simp only [List.length_replicate, Nat.sub_self, List.getElem_cons_zero]
      rw [BitVec.xor_comm, ← BitVec.xor_assoc, BitVec.xor_self, BitVec.zero_xor]
    · rw [if_neg e, BitVec.xor_self]
      by_cases hj : j < i
      · rw [List.getElem_append_left (by simp; omega), List.getElem_append_left (by simpa using hj)]; simp
      · rw [List.getElem_append_right (by simp; omega)]; simp
theorem sum_set (l : List Byte) (i : Nat) (d : Byte) (h : i < l.length) : crcSum (l.set i (l[i] ^^^ d)) = crcSum l ↔ d = 0#8 := by
  rw [crcSum_eq _ _ (by simp), xors_set l i d h, fold_change _ _ _ (by simp)]
  simp
/-- With one byte changed it is not read. -/
theorem pg_change {b : List Byte} {K K' : Int} {n n' : BitVec 32} {x x' : List Byte} (h : pgB K n x = (b, 0)) (i : Nat) (hi : i < b.length) (d : Byte) (h' : pgB K' n' x' = (b.set i (b[i] ^^^ d), 0)) : d = 0#8 := by
  obtain ⟨hl, hs⟩ := pgB_sum h
  obtain ⟨hl', hs'⟩ := pgB_sum h'
  by_cases h1 : 12 ≤ i ∧ i < 16
  · have e16 : (b.set i (b[i] ^^^ d)).drop 16 = b.drop 16 := List.drop_set_of_lt (by omega)
    rw [List.take_set_of_le (by omega), e16, ← hs] at hs'
    have e := congrArg (fun l => l[i - 12]?) hs'
    simp only [List.getElem?_take, List.getElem?_drop, show i - 12 < 4 by omega, if_true, show 12 + (i - 12) = i by omega] at e
    rw [List.getElem?_set, if_pos rfl, if_pos hi, List.getElem?_eq_getElem hi] at e
    have e2 := Option.some.inj e
    have e3 : b[i] ^^^ (b[i] ^^^ d) = b[i] ^^^ b[i] := by rw [e2]
    rwa [← BitVec.xor_assoc, BitVec.xor_self, BitVec.zero_xor] at e3
  · have hz : (b.set i (b[i] ^^^ d)).take 12 ++ (z4 ++ (b.set i (b[i] ^^^ d)).drop 16) = (b.take 12 ++ (z4 ++ b.drop 16)).set i ((b.take 12 ++ (z4 ++ b.drop 16))[i]'(by simp [z4]; omega) ^^^ d) ∧ ((b.set i (b[i] ^^^ d)).drop 12).take 4 = (b.drop 12).take 4 := by
      constructor
      · apply List.ext_getElem?
        intro j
        by_cases hj : j < 12
        · rw [List.getElem?_append_left (by simp; omega), List.getElem?_take, if_pos hj, List.getElem?_set, List.getElem?_set]
          by_cases e : i = j
          · subst e
            rw [if_pos rfl, if_pos rfl, if_pos hi, if_pos (by simp [z4]; omega), List.getElem_append_left (by simp; omega), List.getElem_take]
          · rw [if_neg e, if_neg e, List.getElem?_append_left (by simp; omega), List.getElem?_take, if_pos hj]
        · by_cases hj2 : j < 16
          · have e : ¬ i = j := by omega
            rw [List.getElem?_append_right (by simp; omega), List.getElem?_append_left (by simp [z4]; omega), List.getElem?_set, if_neg e, List.getElem?_append_right (by simp; omega), List.getElem?_append_left (by simp [z4]; omega)]
            simp [hl]
          · rw [List.getElem?_append_right (by simp; omega), List.getElem?_append_right (by simp [z4]; omega), List.getElem?_drop, List.getElem?_set, List.getElem?_set]
            have ej : 16 + (j - (List.take 12 (b.set i (b[i] ^^^ d))).length - z4.length) = j := by simp [z4]; omega
            rw [ej]
            by_cases e : i = j
            · subst e
              rw [if_pos rfl, if_pos rfl, if_pos hi, if_pos (by simp [z4]; omega), List.getElem_append_right (by simp; omega), List.getElem_append_right (by simp [z4]; omega), List.getElem_drop]
              congr 3
              simp [z4]; omega
            · rw [if_neg e, if_neg e, List.getElem?_append_right (by simp; omega), List.getElem?_append_right (by simp [z4]; omega), List.getElem?_drop]
              congr 1
              simp [z4]; omega
      · apply List.ext_getElem?
        intro j
        rw [List.getElem?_take, List.getElem?_take]
        by_cases hj : j < 4
        · rw [if_pos hj, if_pos hj, List.getElem?_drop, List.getElem?_drop, List.getElem?_set, if_neg (by omega)]
        · rw [if_neg hj, if_neg hj]
    rw [hz.2, hz.1, hs] at hs'
    exact (sum_set _ i d _).1 (oword4_inj hs').symm
/-! ### noughts at the end -/
def trimz (x : List Byte) : List Byte := (x.reverse.dropWhile (· == 0#8)).reverse
theorem trimz_nil : trimz [] = [] := rfl
theorem trimz_zero (l : List Byte) : trimz (l ++ [0#8]) = trimz l := by unfold trimz; rw [List.reverse_append]; rfl
theorem trimz_other (l : List Byte) {b : Byte} (h : b ≠ 0#8) : trimz (l ++ [b]) = l ++ [b] := by
  unfold trimz
  rw [List.reverse_append, List.reverse_singleton, List.singleton_append, List.dropWhile_cons, if_neg (by simpa using h), List.reverse_cons, List.reverse_reverse]
theorem trimz_zeros (l : List Byte) (m : Nat) : trimz (l ++ List.replicate m 0#8) = trimz l := by
  induction m with
  | zero => simp
  | succ m ih => rw [List.replicate_succ', ← List.append_assoc, trimz_zero, ih]
theorem trimz_pad (x : List Byte) : trimz (pgPad x) = trimz x := trimz_zeros x _
theorem trimz_len (x : List Byte) : (trimz x).length ≤ x.length := by
  unfold trimz
  rw [List.length_reverse]
  have := (List.dropWhile_suffix (l := x.reverse) (· == 0#8)).length_le
  rwa [List.length_reverse] at this
theorem trimz_pre (x : List Byte) : trimz x = x.take (trimz x).length := by
  have h := (List.dropWhile_suffix (l := x.reverse) (· == 0#8))
  have h2 : trimz x <+: x := by
    unfold trimz
    have := List.reverse_prefix.2 h
    rwa [List.reverse_reverse] at this
  exact List.prefix_iff_eq_take.1 h2
def pgSame (K : Int) (n : BitVec 32) (x : List Byte) (K' : Int) (n' : BitVec 32) (y : List Byte) : Bool := decide (K = K') && decide (n = n') && decide (trimz x = trimz y)
end Go.Proofs.YtoidlmhebnlnbaaDoor
/- page, plain: two pages' bytes are the same where the pages are. -/
set_option linter.unusedVariables false
set_option linter.unusedSimpArgs false
namespace Go.Proofs.YtoidlmhebnlnbaaDoor

theorem pgq_drop (r : List Byte) : ∃ k, r = List.replicate k 0#8 ++ r.dropWhile (· == 0#8) := by
  induction r with
  | nil => exact ⟨0, rfl⟩
  | cons b r ih =>
    obtain ⟨k, h1⟩ := ih
    by_cases hb : b = 0#8
    · subst hb
      refine ⟨k + 1, ?_⟩
      rw [List.dropWhile_cons, if_pos (by simp), List.replicate_succ, List.cons_append, ← h1]
    · refine ⟨0, ?_⟩
      rw [List.dropWhile_cons, if_neg (by simpa using hb)]; rfl
theorem pgq_split (x : List Byte) : ∃ k, x = trimz x ++ List.replicate k 0#8 := by
  obtain ⟨k, h1⟩ := pgq_drop x.reverse
  refine ⟨k, ?_⟩
  have h := congrArg List.reverse h1
  rw [List.reverse_reverse, List.reverse_append, List.reverse_replicate] at h
  exact h
theorem pgPad_trim {x y : List Byte} (hx : x.length ≤ 4080) (hy : y.length ≤ 4080) (h : trimz x = trimz y) : pgPad x = pgPad y := by
  obtain ⟨k, e⟩ := pgq_split (pgPad x)
  obtain ⟨l, e'⟩ := pgq_split (pgPad y)
  rw [trimz_pad] at e e'
  have h1 := pgPad_len hx
  have h2 := pgPad_len hy
  rw [e, List.length_append, List.length_replicate] at h1
  rw [e', List.length_append, List.length_replicate] at h2
  rw [e, e', h, show k = l from by rw [h] at h1; omega]
theorem pgBytes_eq {K K' : Int} {n n' : BitVec 32} {x y : List Byte} (h : pgOk K x = true) (h' : pgOk K' y = true) :
    decide (pgBytes (BitVec.ofInt 8 K) n x = pgBytes (BitVec.ofInt 8 K') n' y) = pgSame K n x K' n' y := by
  rw [Bool.eq_iff_iff, decide_eq_true_eq]
  have o := pgOk_iff.1 h
  have o' := pgOk_iff.1 h'
  unfold pgSame
  simp only [Bool.and_eq_true, decide_eq_true_eq]
  constructor
  · intro e
    have e2 := congrArg pgR e
    rw [pgR_bytes h, pgR_bytes h'] at e2
    simp only [Prod.mk.injEq, and_true] at e2
    obtain ⟨e3, e4, e5⟩ := e2
    exact ⟨⟨e3, e4⟩, by rw [← trimz_pad x, e5, trimz_pad]⟩
  · rintro ⟨⟨rfl, rfl⟩, e⟩
    rw [← pgBytes_pad _ _ o.2.2, ← pgBytes_pad _ _ o'.2.2, pgPad_trim o.2.2 o'.2.2 e]
end Go.Proofs.YtoidlmhebnlnbaaDoor
/- What may turn between two worlds: one block. -/
set_option linter.unusedVariables false
set_option linter.unusedSimpArgs false
namespace Go.Proofs.YtoidlmhebnlnbaaDoor
open Go.ChangeShapes Go.WideShapes Go.ChangeAt Go.RowKit

/-- w' has come out of w: what was there is as it was, but for block g. -/
def TB (g : Nat) (w w' : World) : Prop := w.grownBy w' (some g)
theorem TB.refl (g : Nat) (w : World) : TB g w w := ⟨rfl, rfl, rfl, Nat.le_refl _, fun _ _ _ => rfl⟩
theorem TB.trans {g : Nat} {a b c : World} (h : TB g a b) (k : TB g b c) : TB g a c := World.grownBy.trans h k
theorem TB.le {g : Nat} {a b : World} (h : TB g a b) : a.heap.size ≤ b.heap.size := h.size
theorem TB.of {g : Nat} {a b : World} (h : FB a b) : TB g a b := ⟨h.os, h.tape, h.output, h.size, fun k hk _ => h.out.block k hk⟩
theorem TB.fb {g : Nat} {a b c : World} (h : TB g a b) (k : FB b c) : TB g a c := h.trans (TB.of k)
theorem TB.out {g : Nat} {a b : World} (h : TB g a b) : a.grownBy b (some g) := h
theorem FB.tb {w0 w w' : World} {g : Nat} (h : FB w0 w) (k : TB g w w') (hg : w0.heap.size ≤ g) : FB w0 w' := h.grown k (fun j hj => by cases hj; exact hg)
theorem TB.set {g : Nat} (w : World) (i : Nat) (v : Value) : TB g w (w.setCell ⟨g, i, none⟩ v) :=
  ⟨rfl, rfl, rfl, by simp, fun k _ hk => heap_setCell_other w _ k v (fun e => hk (by simp [e]))⟩
theorem TB.rd {g : Nat} {w w' : World} (h : TB g w w') {A : Option Addr} {xs : List Byte} (hr : Rd w A xs) (ha : ∀ ad, A = some ad → ad.block ≠ g) : Rd w' A xs :=
  RdV.move hr fun a v e hc => h.out.cell hc (by
    cases A with
    | none => cases e
    | some ad => simp at e; have := ha ad rfl; simp; omega)
theorem TB.own {g : Nat} {w w' : World} (h : TB g w w') {base : Nat} {v : Value} {xs : List Byte} (hr : Own w base v xs) (ha : g < base) : Own w' base v xs :=
  OwnV.grown hr h (by
    cases hv : v.ownBlock with
    | none => exact .inl rfl
    | some k => right; have := Own.bnd hr k hv; simp; omega)

theorem frozen_row (w : World) {g : Nat} {cs : Array Value} {t : TypeId} (h : w.heap[g]? = some (.cells cs t (0, 0))) (j : Nat) : w.frozen? ⟨g, j, none⟩ = false := by simp [World.frozen?, h]
end Go.Proofs.YtoidlmhebnlnbaaDoor
/- A map whose keys are ints, as the heap holds it: look-up, store, clear. -/
set_option linter.unusedVariables false
set_option linter.unusedSimpArgs false
namespace Go.Proofs.YtoidlmhebnlnbaaDoor
open Go.ChangeShapes Go.WideShapes Go.ChangeAt Go.RowKit Go.MapKept

def mget : List (Int × Value) → Int → Option Value
  | [], _ => none
  | (k', v) :: M, k => if k' = k then some v else mget M k
def mput : List (Int × Value) → Int → Value → List (Int × Value)
  | [], k, v => [(k, v)]
  | (k', v') :: M, k, v => if k' = k then (k, v) :: M else (k', v') :: mput M k v
/-- Block m is a map with these entries. -/
def MapAt (w : World) (m : Nat) (M : List (Int × Value)) : Prop :=
  ∃ es clock, w.heap[m]? = some (.map es clock) ∧ es.toList.map (fun e => (e.key, e.val)) = M.map (fun p => (Value.int .i64 p.1, p.2)) ∧ (∀ e ∈ es.toList, e.born < clock) ∧ (es.toList.map (·.born)).Nodup ∧ (M.map (·.1)).Nodup
theorem MapAt.lt {w : World} {m : Nat} {M : List (Int × Value)} (h : MapAt w m M) : m < w.heap.size := by
  obtain ⟨es, clock, h1, -⟩ := h
  exact (Array.getElem?_eq_some_iff.1 h1).1
theorem MapAt.block {w w' : World} {m : Nat} {M : List (Int × Value)} (h : MapAt w m M) (hb : w'.heap[m]? = w.heap[m]?) : MapAt w' m M := by
  obtain ⟨es, clock, h1, h2⟩ := h
  exact ⟨es, clock, hb.trans h1, h2⟩
theorem MapAt.new (w : World) : MapAt (w.alloc (.map #[] 0)) w.heap.size [] := ⟨#[], 0, heap_alloc_new _ _, rfl, by simp, by simp, by simp⟩
theorem isKey_all {es : List MapEntry} {M : List (Int × Value)} (h : es.map (fun e => (e.key, e.val)) = M.map (fun p => (Value.int .i64 p.1, p.2))) : ∀ x ∈ es, IsKey (.int .i64) x.key := by
  intro x hx
  have : (x.key, x.val) ∈ M.map (fun p => (Value.int .i64 p.1, p.2)) := by rw [← h]; exact List.mem_map.2 ⟨x, hx, rfl⟩
  obtain ⟨p, -, hp⟩ := List.mem_map.1 this
  simp only [Prod.mk.injEq] at hp
  rw [← hp.1]; rfl
theorem mget_none {es : List MapEntry} {k : Int} : ∀ {M : List (Int × Value)}, es.map (fun e => (e.key, e.val)) = M.map (fun p => (Value.int .i64 p.1, p.2)) → (∀ x ∈ es, x.key ≠ .int .i64 k) → mget M k = none ∧ ∀ v, mput M k v = M ++ [(k, v)] := by
  induction es with
  | nil => intro M h _; cases M with
    | nil => exact ⟨rfl, fun v => rfl⟩
    | cons p M => simp at h
  | cons e es ih => intro M h hne; cases M with
    | nil => simp at h
    | cons p M =>
      simp only [List.map_cons, List.cons.injEq, Prod.mk.injEq] at h
      obtain ⟨⟨hk, hv⟩, ht⟩ := h
      have h1 := ih ht (fun x hx => hne x (List.mem_cons_of_mem _ hx))
      have h0 : p.1 ≠ k := fun e0 => hne e (List.mem_cons_self) (by rw [hk, e0])
      obtain ⟨pk, pv⟩ := p
      exact ⟨by rw [mget, if_neg h0]; exact h1.1, fun v => by rw [mput, if_neg h0, h1.2]; rfl⟩
theorem mget_some {es : List MapEntry} {k : Int} {e0 : MapEntry} : ∀ {j : Nat} {M : List (Int × Value)}, es.map (fun e => (e.key, e.val)) = M.map (fun p => (Value.int .i64 p.1, p.2)) → (M.map (·.1)).Nodup → es[j]? = some e0 → e0.key = .int .i64 k →
    mget M k = some e0.val ∧ ∀ v, (es.modify j fun e => { e with key := .int .i64 k, val := v }).map (fun e => (e.key, e.val)) = (mput M k v).map (fun p => (Value.int .i64 p.1, p.2)) := by
  induction es with
  | nil => intro j M h hn hj; simp at hj
  | cons e es ih => intro j M h hn hj hk; cases M with
    | nil => simp at h
    | cons p M =>
      obtain ⟨pk, pv⟩ := p
      simp only [List.map_cons, List.cons.injEq, Prod.mk.injEq, List.nodup_cons] at h hn
      obtain ⟨⟨hk1, hv1⟩, ht⟩ := h
      cases j with
      | zero =>
        simp only [List.getElem?_cons_zero, Option.some.injEq] at hj
        subst hj
        have : pk = k := by rw [hk] at hk1; cases hk1; rfl
        subst this
        refine ⟨by rw [mget, if_pos rfl, hv1], fun v => ?_⟩
        rw [mput, if_pos rfl]
        simp [ht]
      | succ j =>
        simp only [List.getElem?_cons_succ] at hj
        have h1 := ih ht hn.2 hj hk
        have h0 : pk ≠ k := by
          intro e0'
          have : (e0.key, e0.val) ∈ M.map (fun p => (Value.int .i64 p.1, p.2)) := by rw [← ht]; exact List.mem_map.2 ⟨e0, List.mem_of_getElem? hj, rfl⟩
          obtain ⟨q, hq, hq2⟩ := List.mem_map.1 this
          simp only [Prod.mk.injEq] at hq2
          rw [hk] at hq2
          injection hq2.1 with _ e1
          exact hn.1 (List.mem_map.2 ⟨q, hq, by rw [e1, e0']⟩)
        refine ⟨by rw [mget, if_neg h0]; exact h1.1, fun v => ?_⟩
        rw [mput, if_neg h0]
        simp only [List.modify_succ_cons, List.map_cons, List.cons.injEq, Prod.mk.injEq]
        exact ⟨⟨hk1, hv1⟩, h1.2 v⟩
section
variable {P : Program} {t k e : TypeId} (ht : P.underlying t = some (.map k e)) (hk : P.underlying k = some (.int .i64))
include ht hk
theorem map_lookup {w : World} {m : Nat} {M : List (Int × Value)} {z : Value} (h : MapAt w m M) (x : Int) (ok : Bool) (hz : (zeroValue e).run P w = .ok z w) :
    (Instr.lookup t (.map (some m)) (.int .i64 x) ok).run P w = .ok (if ok then .tuple #[(mget M x).getD z, .bool (mget M x).isSome] else (mget M x).getD z) w := by
  obtain ⟨es, clock, h1, h2, h3, h4, h5⟩ := h
  have hkey : IsKey (.int .i64) (.int .i64 x) := rfl
  rcases findNow_spec hkey es.toList 0 (isKey_all h2) with ⟨f1, f2⟩ | ⟨j, e0, f1, f2, f3⟩
  · have hm := (mget_none h2 f2).1
    rw [hm]
    cases ok <;> simp [Instr.lookup, run_underlying ht, MapKept.run_getObj_map h1, run_checkKey hk hkey, run_findKey hk f1, hz, Result.andThen]
  · have hm := (mget_some h2 h5 f2 f3).1
    rw [hm]
    cases ok <;> simp [Instr.lookup, run_underlying ht, MapKept.run_getObj_map h1, run_checkKey hk hkey, run_findKey hk f1, Result.andThen]
theorem map_update {w : World} {m : Nat} {M : List (Int × Value)} (h : MapAt w m M) (x : Int) (v : Value) :
    ∃ w', (Instr.mapUpdate t (.map (some m)) (.int .i64 x) v).run P w = .ok () w' ∧ MapAt w' m (mput M x v) ∧ TB m w w' := by
  obtain ⟨es, clock, h1, h2, h3, h4, h5⟩ := h
  have hkey : IsKey (.int .i64) (.int .i64 x) := rfl
  have htb : ∀ o, TB m w { w with heap := w.heap.setIfInBounds m o } := fun o => ⟨rfl, rfl, rfl, by simp, fun k _ hk => by simp [show ¬ m = k from fun e => hk (by simp [e])]⟩
  have hlt := (Array.getElem?_eq_some_iff.1 h1).1
  rcases findNow_spec hkey es.toList 0 (isKey_all h2) with ⟨f1, f2⟩ | ⟨j, e0, f1, f2, f3⟩
  · have hm := (mget_none h2 f2).2 v
    have hm0 := (mget_none h2 f2).1
    refine ⟨_, by simp [Instr.mapUpdate, run_underlying ht, MapKept.run_getObj_map h1, run_checkKey hk hkey, run_findKey hk f1, MapKept.run_setObj_map _ h1, Result.andThen]; rfl, ⟨es.push ⟨.int .i64 x, v, clock⟩, clock + 1, by simp [hlt], ?_, ?_, ?_, ?_⟩, htb _⟩
    · rw [hm]; simp [h2]
    · intro e he
      simp only [Array.toList_push, List.mem_append, List.mem_singleton] at he
      rcases he with he | rfl
      · have := h3 e he; omega
      · simp
    · rw [Array.toList_push, List.map_append, List.nodup_append]
      refine ⟨h4, by simp, ?_⟩
      intro a ha b hb
      obtain ⟨e, he, rfl⟩ := List.mem_map.1 ha
      simp only [List.map_cons, List.map_nil, List.mem_singleton] at hb
      have := h3 e he
      omega
    · rw [hm, List.map_append, List.nodup_append]
      refine ⟨h5, by simp, ?_⟩
      intro a ha b hb
      simp only [List.map_cons, List.map_nil, List.mem_singleton] at hb
      subst hb
      rintro rfl
      obtain ⟨p, hp, hp1⟩ := List.mem_map.1 ha
      have : (Value.int .i64 p.1, p.2) ∈ es.toList.map (fun e => (e.key, e.val)) := by rw [h2]; exact List.mem_map.2 ⟨p, hp, rfl⟩
      obtain ⟨e, he, he2⟩ := List.mem_map.1 this
      simp only [Prod.mk.injEq] at he2
      exact f2 e he (by rw [he2.1, hp1])
  · have hm := (mget_some h2 h5 f2 f3).2 v
    have hj : es[j]? = some e0 := by simpa using f2
    refine ⟨_, by simp [Instr.mapUpdate, run_underlying ht, MapKept.run_getObj_map h1, run_checkKey hk hkey, run_findKey hk f1, hj, f3, run_keyThatStays hkey, MapKept.run_setObj_map _ h1, Result.andThen]; rfl, ⟨es.modify j (fun e' => { e' with key := .int .i64 x, val := v }), clock, by simp [hlt], ?_, ?_, ?_, ?_⟩, htb _⟩
    · rw [← hm, Array.toList_modify]
    · intro e he
      rcases MapFrom.mem_modify he with he | ⟨e', he', rfl⟩
      · exact h3 e he
      · exact h3 e' (List.mem_of_getElem? (by simpa using he'))
    · have : (es.modify j (fun e' => { e' with key := .int .i64 x, val := v })).toList.map (·.born) = es.toList.map (·.born) := by
        rw [Array.toList_modify]
        apply List.ext_getElem?
        intro i
        simp only [List.getElem?_map, List.getElem?_modify]
        split
        · cases es.toList[i]? <;> rfl
        · simp
      rw [this]; exact h4
    · have : (mput M x v).map (·.1) = M.map (·.1) := by
        have hs := (mget_some h2 h5 f2 f3).1
        clear hm h2 h5 htb
        revert hs
        generalize e0.val = q
        induction M with
        | nil => intro hs; cases hs
        | cons p M ih =>
          obtain ⟨pk, pv⟩ := p
          intro hs
          rw [mget] at hs
          rw [mput]
          by_cases h0 : pk = x
          · rw [if_pos h0]; simp [h0]
          · rw [if_neg h0] at hs ⊢
            simp [ih hs]
      rw [this]; exact h5
end
theorem map_clear {P : Program} {t k e : TypeId} (ht : P.underlying t = some (.map k e)) {w : World} {m : Nat} {M : List (Int × Value)} (h : MapAt w m M) (ty : TypeId) :
    ∃ w', (Builtin.clear_ #[t] ty #[.map (some m)]).run P w = .ok (.tuple #[]) w' ∧ MapAt w' m [] ∧ TB m w w' := by
  obtain ⟨es, clock, h1, h2, h3, h4, h5⟩ := h
  have hlt := (Array.getElem?_eq_some_iff.1 h1).1
  refine ⟨{ w with heap := w.heap.setIfInBounds m (.map #[] clock) }, by simp [Builtin.clear_, run_underlying ht, MapKept.run_getObj_map h1, MapKept.run_setObj_map _ h1, Result.andThen], ⟨#[], clock, by simp [hlt], rfl, by simp, by simp, by simp⟩, ⟨rfl, rfl, rfl, by simp, fun k _ hk => by simp [show ¬ m = k from fun e => hk (by simp [e])]⟩⟩
end Go.Proofs.YtoidlmhebnlnbaaDoor
/- What may turn between two worlds: some blocks. -/
set_option linter.unusedVariables false
set_option linter.unusedSimpArgs false
namespace Go.Proofs.YtoidlmhebnlnbaaDoor
open Go.ChangeShapes Go.WideShapes Go.ChangeAt Go.RowKit

/-- w' has come out of w: what was there is as it was, but for these blocks. -/
structure TS (F : List Nat) (w w' : World) : Prop where
  os : w'.os = w.os
  tape : w'.tape = w.tape
  output : w'.output = w.output
  size : w.heap.size ≤ w'.heap.size
  block : ∀ k, k < w.heap.size → k ∉ F → w'.heap[k]? = w.heap[k]?
theorem TS.refl (F : List Nat) (w : World) : TS F w w := ⟨rfl, rfl, rfl, Nat.le_refl _, fun _ _ _ => rfl⟩
theorem TS.of {F : List Nat} {w w' : World} (h : FB w w') : TS F w w' := ⟨h.os, h.tape, h.output, h.size, fun k hk _ => h.out.block k hk⟩
theorem TS.tb {F : List Nat} {g : Nat} {w w' : World} (h : TB g w w') (hg : g ∈ F) : TS F w w' := ⟨h.os, h.tape, h.output, h.size, fun k hk hn => h.out.block k hk (fun e => by simp at e; subst e; exact hn hg)⟩
theorem TS.trans {F F' : List Nat} {a b c : World} (h : TS F a b) (k : TS F' b c) (hf : ∀ x ∈ F', x ∈ F ∨ a.heap.size ≤ x) : TS F a c :=
  ⟨k.os.trans h.os, k.tape.trans h.tape, k.output.trans h.output, Nat.le_trans h.size k.size, fun x hx hn => (k.block x (Nat.lt_of_lt_of_le hx h.size) (fun hm => by rcases hf x hm with h | h; exact hn h; omega)).trans (h.block x hx hn)⟩
theorem TS.then {F : List Nat} {a b c : World} (h : TS F a b) (k : TS F b c) : TS F a c := h.trans k (fun x hx => .inl hx)
theorem FB.ts {w0 w w' : World} {F : List Nat} (h : FB w0 w) (k : TS F w w') (hf : ∀ x ∈ F, w0.heap.size ≤ x) : FB w0 w' :=
  ⟨k.os.trans h.out.os, k.tape.trans h.out.tape, k.output.trans h.out.output, Nat.le_trans h.le k.size, fun x hx => (k.block x (Nat.lt_of_lt_of_le hx h.le) (fun hm => by have := hf x hm; omega)).trans (h.block x hx)⟩
theorem TS.cell {F : List Nat} {w w' : World} (h : TS F w w') {a : Addr} {v : Value} (hc : w.cell? a = some v) (ha : a.block ∉ F) : w'.cell? a = some v := by
  exact (World.cell?_of_block (w := w) (h.block a.block (World.block_lt_of_cell? w a hc) ha)).trans hc
theorem TS.rd {F : List Nat} {w w' : World} (h : TS F w w') {A : Option Addr} {xs : List Byte} (hr : Rd w A xs) (ha : ∀ ad, A = some ad → ad.block ∉ F) : Rd w' A xs :=
  RdV.move hr fun a v e hc => h.cell hc (by
    cases A with
    | none => cases e
    | some ad => simp at e; have := ha ad rfl; rw [← e]; exact this)
theorem TS.ownV {F : List Nat} {e : TypeId} {w w' : World} (h : TS F w w') {base : Nat} {v : Value} {vs : List Value} (hr : OwnV e w base v vs) (ha : ∀ k, v.ownBlock = some k → k ∉ F) : OwnV e w' base v vs := by
  unfold OwnV at *
  rcases hr with ⟨h1, h2 | ⟨g, cap, cur, h3, h4, h5, h6⟩⟩
  · exact ⟨h1, .inl h2⟩
  · refine ⟨h1, .inr ⟨g, cap, cur, h3, h4, ?_, h6⟩⟩
    rw [h.block g (Array.getElem?_eq_some_iff.1 h5).1 (ha g (by rw [h3]; rfl))]
    exact h5
theorem TS.rdV {F : List Nat} {w w' : World} (h : TS F w w') {A : Option Addr} {vs : List Value} (hr : RdV w A vs) (ha : ∀ ad, A = some ad → ad.block ∉ F) : RdV w' A vs :=
  RdV.move hr fun a v e hc => h.cell hc (by
    cases A with
    | none => cases e
    | some ad => simp at e; have := ha ad rfl; rw [← e]; exact this)
end Go.Proofs.YtoidlmhebnlnbaaDoor
/- The walks through package tallymankit: Own, Pick. -/
set_option linter.unusedVariables false
set_option linter.unusedSimpArgs false
namespace Go.Proofs.YtoidlmhebnlnbaaDoor
open Go.ChangeShapes Go.WideShapes Go.ChangeAt Go.RowKit

/-- n modulo m, from 0 on (0 of an m below 1). -/
def pick (n m : Int) : Int := if m < 1 then 0 else n % m
theorem pick_range (n m : Int) (h : 1 ≤ m) : 0 ≤ pick n m ∧ pick n m < m := by
  unfold pick
  rw [if_neg (by omega)]
  exact ⟨Int.emod_nonneg _ (by omega), Int.emod_lt_of_pos _ (by omega)⟩
theorem tmod_neg (n m : Int) (h : 1 ≤ m) (hn : n.tmod m < 0) : n.tmod m + m = n % m := by
  rw [Int.tmod_eq_emod] at hn ⊢
  split at hn
  · have := Int.emod_nonneg n (show m ≠ 0 by omega); omega
  · rename_i hc
    rw [if_neg hc, Int.natAbs_of_nonneg (by omega)]; omega
theorem tmod_pos (n m : Int) (h : 1 ≤ m) (hn : ¬ n.tmod m < 0) : n.tmod m = n % m := by
  rw [Int.tmod_eq_emod] at hn ⊢
  split at hn
  · rename_i hc; rw [if_pos hc]; omega
  · rename_i hc
    rw [if_neg hc, Int.natAbs_of_nonneg (by omega)] at *
    have := Int.emod_lt_of_pos n (show 0 < m by omega)
    omega

set_option maxHeartbeats 400000 in
theorem kit_Pick (n m : Int) (w : World) (hm0 : 1 ≤ m) (hm : m ≤ 9223372036854775807) : Calls Tryd.prog 14 #[.int .i64 n, .int .i64 m] w fun e w' => e = .returned (.int .i64 (pick n m)) ∧ w = w' := by
  have hp : pick n m = n % m := by unfold pick; rw [if_neg (by omega)]
  rw [hp]
  clear hp
  have h1 : ¬ m < 1 := by omega
  have h2 : (m == 0) = false := beq_eq_false_iff_ne.2 (by omega)
  by_cases hn : n.tmod m < 0
  · have H := Lib.hid (tmod_neg n m hm0 hn)
    have hlow : -9223372036854775808 ≤ n.tmod m + m := by rw [H.out]; have := Int.emod_nonneg n (show m ≠ 0 by omega); omega
    have hd : decide (n.tmod m < 0) = true := by simpa using hn
    go_enter Tryd.func14, Tryd.ntmps14
    go_wp2
    go_ret
    exact ⟨by rw [← H.out]; simp, rfl⟩
  · have H := Lib.hid (tmod_pos n m hm0 hn)
    have hd : decide (n.tmod m < 0) = false := by simpa using hn
    go_enter Tryd.func14, Tryd.ntmps14
    go_wp2
    go_ret
    exact ⟨by rw [← H.out]; simp, rfl⟩

set_option maxRecDepth 100000 in
set_option maxHeartbeats 400000 in
theorem kit_Own (xs : List Byte) (A : Option Addr) (c : Nat) (w : World) (hc : xs.length ≤ c) (hm : xs.length ≤ 140737488355328) (hr : Rd w A xs) :
    Calls Tryd.prog 17 #[.slice A xs.length c] w fun e w' => ∃ A' c', e = .returned (.slice A' xs.length c') ∧ Own w' w.heap.size (.slice A' xs.length c') xs ∧ Below w.heap.size w w' := by
  have HR := Lib.hid hr
  clear hr
  go_enter Tryd.func17, Tryd.ntmps17
  go_wp2_with (at_builtin; refine wpList_append_bytes rfl _ _ rfl w.heap.size _ [] (OwnV.lit _ w [] (by simp)) rfl A c xs rfl (HR.out.alloc _) (by simpa using hm) (by simp) ?_; intro v' w1 ho hg _; have HO := Lib.hid ho; have HG := Lib.hid hg; clear ho hg)
  go_ret
  have ho := HO.out
  rw [List.nil_append] at ho
  obtain ⟨A', c', e1, _⟩ := ho.form
  rw [e1] at ho
  exact ⟨A', c', by simp [e1], ho, (((Below.refl _ w).alloc (Nat.le_refl _) _).grown HG.out (by simp) (by simp [Value.ownBlock]))⟩

end Go.Proofs.YtoidlmhebnlnbaaDoor
/- The walks through slices.Clone, Grow, Concat and what lays down numbers and words. -/
set_option linter.unusedVariables false
set_option linter.unusedSimpArgs false
namespace Go.Proofs.YtoidlmhebnlnbaaDoor
open Go.ChangeShapes Go.WideShapes Go.ChangeAt Go.RowKit

set_option maxRecDepth 100000 in
set_option maxHeartbeats 400000 in
theorem sl_Clone (xs : List Byte) (A : Option Addr) (n c : Nat) (w : World) (hn : n = xs.length) (hm : xs.length ≤ 140737488355328) (hr : Rd w A xs) :
    Calls Tryd.prog 37 #[.slice A n c] w fun e w' => ∃ A' c', e = .returned (.slice A' n c') ∧ Own w' w.heap.size (.slice A' n c') xs ∧ Below w.heap.size w w' := by
  subst hn
  have HR := Lib.hid hr
  clear hr
  cases A with
  | none =>
    have hx : xs = [] := by
      cases xs with
      | nil => rfl
      | cons y ys => obtain ⟨b, o, e, _⟩ := HR.out 0 (by simp [vbs]); cases e
    subst hx
    simp only [List.length_nil]
    have hq : ∀ W, (binOp .eql 27 (.slice none 0 c) (.slice none 0 0)).run Tryd.prog W = .ok (.bool true) W := fun W => Lib.run_eql_slice_nil W _ _ none _ c 0 0 Tryd.underlying27
    go_enter Tryd.func37, Tryd.ntmps37
    go_wp2
    go_ret
    exact ⟨none, 0, rfl, Own.nil _ _, Below.refl _ _⟩
  | some A =>
    have hq : ∀ W, (binOp .eql 27 (.slice (some A) xs.length c) (.slice none 0 0)).run Tryd.prog W = .ok (.bool false) W := fun W => Lib.run_eql_slice_nil W _ _ (some A) _ c 0 0 Tryd.underlying27
    go_enter Tryd.func37, Tryd.ntmps37
    go_wp2_with (at_builtin; refine wpList_append_bytes rfl _ _ rfl w.heap.size _ [] (OwnV.lit _ w [] (by simp)) rfl (some A) c xs rfl (HR.out.alloc _) (by simpa using hm) (by simp) ?_; intro v' w1 ho hg _; have HO := Lib.hid ho; have HG := Lib.hid hg; clear ho hg)
    go_ret
    have ho := HO.out
    rw [List.nil_append] at ho
    obtain ⟨A', c', e1, _⟩ := ho.form
    rw [e1] at ho
    exact ⟨A', c', by simp [e1], ho, (((Below.refl _ w).alloc (Nat.le_refl _) _).grown HG.out (by simp) (by simp [Value.ownBlock]))⟩

set_option maxRecDepth 100000 in
set_option maxHeartbeats 400000 in
/-- Grow of nil. -/
theorem sl_Grow (n : Nat) (w : World) (hn : n ≤ 140737488355328) :
    Calls Tryd.prog 57 #[.slice none 0 0, .int .i64 (n : Int)] w fun e w' => ∃ v, e = .returned v ∧ Own w' w.heap.size v [] ∧ Below w.heap.size w w' := by
  obtain ⟨i, hi, hz, hsize, hby⟩ := info_parts info_u8
  by_cases h0 : 0 < n
  · have hcut := cut_hi none 0 [] 0 (Nat.le_refl _) (Nat.le_refl _)
    have hrun := fun ty => Lib.run_append_nil_zeros (P := Tryd.prog) w 27 3 ty 5 i _ .i64 .i64 Tryd.underlying27 Tryd.underlying3 hi hz n h0 (by omega) (by omega) (by rw [hby]; omega)
    have HRUN := Lib.hid hrun
    clear hrun
    have hcap : grownCap w n 0 5 ≤ maxLen := grownCap_le_maxLen w n 0 _ (by rw [maxLen_eq]; omega)
    have HCAP := Lib.hid hcap
    go_enter Tryd.func57, Tryd.ntmps57
    go_wp2_with (at_builtin; refine Lib.wpList_append_run _ rfl _ _ _ _ rfl _ _ rfl rfl _ _ (HRUN.out _) ?_)
    go_ret
    refine ⟨_, rfl, ?_, ?_⟩
    · have h := World.ownsRow_made (base := w.heap.size) (e := 5) (size := 1) w.drew (Builtin.zeroCells #[Value.int IntKind.u8 0] n ++ Builtin.zeroCells #[Value.int IntKind.u8 0] (grownCap w n 0 5 - n)) (grownCap w n 0 5) (Nat.le_refl _) HCAP.out (by simp [size_zeroCells]; have := grownCap_ge w n 0 5; omega)
      exact h
    · exact ((FB.refl w).alloc _).drew
  · obtain rfl : n = 0 := by omega
    go_enter Tryd.func57, Tryd.ntmps57
    go_wp2
    go_ret
    exact ⟨_, rfl, Own.nil _ _, Below.refl _ _⟩

theorem lens_le (ls : List (List Byte)) (k : Nat) : (ls.take k).flatten.length ≤ ls.flatten.length := by
  conv => rhs; rw [← List.take_append_drop k ls]
  rw [List.flatten_append, List.length_append]; omega
theorem lens_succ (ls : List (List Byte)) (k : Nat) (h : k < ls.length) : (ls.take (k + 1)).flatten = (ls.take k).flatten ++ ls[k] := by
  rw [List.take_succ_eq_append_getElem h, List.flatten_append]; simp only [List.flatten_cons, List.flatten_nil, List.append_nil]

set_option maxRecDepth 100000 in
set_option maxHeartbeats 1000000 in
theorem sl_Concat (ls : List (List Byte)) (A : Option Addr) (n c : Nat) (w : World) (hn : n = ls.length) (hc : ls.length ≤ c) (hm : c ≤ maxLen) (hr : RdL w A ls) (hl : ls.flatten.length ≤ 140737488355328) :
    Calls Tryd.prog 43 #[.slice A n c] w fun e w' => ∃ v, e = .returned v ∧ Own w' w.heap.size v ls.flatten ∧ Below w.heap.size w w' := by
  subst hn
  have HR := Lib.hid hr
  clear hr
  unfold maxLen at hm
  go_enter Tryd.func43, Tryd.ntmps43
  go_wp2
  go_loop [3, 5, 11] (fun s _ i => ∃ k : Nat, k ≤ ls.length ∧ i = .int .i64 k ∧ s = .int .i64 ((ls.take k).flatten.length : Nat)) (fun _ _ i => ls.length - (intOf i).toNat)
  case atStart => exact ⟨0, by omega, rfl, by simp⟩
  case round =>
    obtain ⟨k, hk, rfl, rfl⟩ := hrel
    by_cases hlt : k < ls.length
    · obtain ⟨b, o, A', c', rfl, hcell, hc', hm', hrd⟩ := HR.out k hlt
      have HS := Lib.hid (lens_succ ls k hlt)
      have h1 := lens_le ls (k + 1)
      have h2 : (ls.take (k + 1)).flatten.length = (ls.take k).flatten.length + ls[k].length := by rw [HS.out]; simp
      have H2 := Lib.hid h2
      have h3 : (ls.take k).flatten.length + ls[k].length ≤ 140737488355328 := by omega
      clear hrd h1 h2
      generalize (ls.take k).flatten.length = m at *
      generalize ls[k].length = q at *
      go_wp2
      go_round
      case rel => exact ⟨k + 1, by omega, by go_num, by rw [H2.out]; go_num⟩
      case measure => simp [intOf]; omega
    · obtain rfl : k = ls.length := by omega
      have hfl : (ls.take ls.length).flatten.length = ls.flatten.length := by simp
      rw [hfl]
      have HL := Lib.hid hl
      obtain ⟨T, hT⟩ : ∃ T, T = ls.flatten.length := ⟨_, rfl⟩
      have HT := Lib.hid hT
      rw [← hT]
      have hT2 : T ≤ 140737488355328 := by rw [hT]; exact hl
      clear hT hl
      go_wp2_with fail
      refine (sl_Grow T _ hT2).mono ?_
      rintro e w1 ⟨v0, rfl, ho, hb⟩
      have HO0 := Lib.hid ho
      have HB0 := Lib.hid hb
      clear ho hb hfl
      have hl := HL.out
      go_wp2
      go_loopw [6, 8, 27] (fun v _ i wr => ∃ k : Nat, k ≤ ls.length ∧ i = .int .i64 k ∧ Hid (Own wr w.heap.size v (ls.take k).flatten) ∧ Hid (FB w wr)) (fun _ _ i _ => ls.length - (intOf i).toNat)
      case atStart => exact ⟨0, by omega, rfl, HO0.out, HB0.out⟩
      case round =>
        obtain ⟨k, hk, rfl, HO, HF⟩ := hrel
        by_cases hlt : k < ls.length
        · obtain ⟨b, o, A', c', rfl, hcell, hc', hm', hrd⟩ := (HR.out.below HF.out) k hlt
          have HRD := Lib.hid hrd
          have HS := Lib.hid (lens_succ ls k hlt)
          have h1 := lens_le ls (k + 1)
          have h3 : (ls.take k).flatten.length + ls[k].length ≤ 140737488355328 := by rw [HS.out, List.length_append] at h1; omega
          clear hrd h1
          generalize ls[k] = x at *
          generalize (ls.take k).flatten = y at *
          go_wp2_with (at_builtin; refine wpList_append_bytes rfl _ _ rfl w.heap.size _ y HO.out rfl A' c' x rfl HRD.out h3 HF.out.le ?_; intro v' w2 ho hg _; have HO2 := Lib.hid ho; have HG := Lib.hid hg; clear ho hg)
          go_roundw
          case rel => exact ⟨k + 1, by omega, by go_num, by rw [HS.out]; exact HO2.out, HF.out.grown HG.out (Own.bnd HO.out)⟩
          case measure => simp [intOf]; omega
        · obtain rfl : k = ls.length := by omega
          go_wp2
          go_ret
          have ho := HO.out
          rw [List.take_length] at ho
          exact ⟨_, rfl, ho, HF.out⟩
end Go.Proofs.YtoidlmhebnlnbaaDoor
/- A disk: its blocks; what may turn; the walks through made, Sectors, fails. -/
set_option linter.unusedVariables false
set_option linter.unusedSimpArgs false
namespace Go.Proofs.YtoidlmhebnlnbaaDoor
open Go.ChangeShapes Go.WideShapes Go.ChangeAt Go.RowKit Go.MapKept

theorem MapAt.ts {F : List Nat} {w w' : World} {m : Nat} {M : List (Int × Value)} (h : MapAt w m M) (k : TS F w w') (hm : m ∉ F) : MapAt w' m M := h.block (k.block m h.lt hm)
theorem row4 {W : World} {g : Nat} {a b c d : Value} {t : TypeId} {fr : Nat × Nat} (h : W.heap[g]? = some (.cells #[a, b, c, d] t fr)) :
    W.cell? ⟨g, 0, none⟩ = some a ∧ W.cell? ⟨g, 1, none⟩ = some b ∧ W.cell? ⟨g, 2, none⟩ = some c ∧ W.cell? ⟨g, 3, none⟩ = some d := by
  refine ⟨?_, ?_, ?_, ?_⟩ <;> (rw [cell_of_row _ _ _ _ _ _ h]; rfl)

/-- The cached bytes, each in a row that nothing else of the disk lies in. -/
inductive Vals (w : World) (F ctl : List Nat) : List (Int × Value) → List (Int × List Byte) → Prop
  | nil : Vals w F ctl [] []
  | cons {k : Int} {A : Option Addr} {c : Nat} {x : List Byte} {V : List (Int × Value)} {M : List (Int × List Byte)} (hr : Rd w A x) (h1 : x.length ≤ c) (h2 : c ≤ maxLen) (hb : ∀ ad, A = some ad → ad.block ∈ F ∧ ad.block ∉ ctl) (ht : Vals w F ctl V M) : Vals w F ctl ((k, .slice A x.length c) :: V) ((k, x) :: M)
theorem Vals.move {w w' : World} {F F' ctl ctl' : List Nat} {V : List (Int × Value)} {M : List (Int × List Byte)} (h : Vals w F ctl V M) (hr : ∀ A x, Rd w A x → (∀ ad, A = some ad → ad.block ∈ F ∧ ad.block ∉ ctl) → Rd w' A x) (hb : ∀ b, b ∈ F → b ∉ ctl → b ∈ F' ∧ b ∉ ctl') : Vals w' F' ctl' V M := by
  induction h with
  | nil => exact .nil
  | cons k1 h1 h2 k2 ht ih => exact .cons (hr _ _ k1 k2) h1 h2 (fun ad ha => hb _ (k2 ad ha).1 (k2 ad ha).2) ih
theorem Vals.keys {w : World} {F ctl : List Nat} {V : List (Int × Value)} {M : List (Int × List Byte)} (h : Vals w F ctl V M) : V.map (·.1) = M.map (·.1) := by
  induction h with
  | nil => rfl
  | cons k1 h1 h2 k2 ht ih => simp [ih]
/-- The bytes cached for a sector. -/
def cget : List (Int × List Byte) → Int → Option (List Byte)
  | [], _ => none
  | (k', v) :: M, k => if k' = k then some v else cget M k
def cput : List (Int × List Byte) → Int → List Byte → List (Int × List Byte)
  | [], k, v => [(k, v)]
  | (k', v') :: M, k, v => if k' = k then (k, v) :: M else (k', v') :: cput M k v
theorem Vals.get {w : World} {F ctl : List Nat} {V : List (Int × Value)} {M : List (Int × List Byte)} (h : Vals w F ctl V M) (k : Int) :
    (mget V k = none ∧ cget M k = none) ∨ ∃ A c x, mget V k = some (.slice A x.length c) ∧ cget M k = some x ∧ Rd w A x ∧ x.length ≤ c ∧ c ≤ maxLen ∧ ∀ ad, A = some ad → ad.block ∈ F ∧ ad.block ∉ ctl := by
  induction h with
  | nil => exact .inl ⟨rfl, rfl⟩
  | @cons k' A c x V M hr h1 h2 hb ht ih =>
    rw [mget, cget]
    by_cases h0 : k' = k
    · rw [if_pos h0, if_pos h0]; exact .inr ⟨A, c, x, rfl, rfl, hr, h1, h2, hb⟩
    · rw [if_neg h0, if_neg h0]; exact ih
theorem Vals.put {w : World} {F ctl : List Nat} {V : List (Int × Value)} {M : List (Int × List Byte)} (h : Vals w F ctl V M) (k : Int) {A : Option Addr} {c : Nat} {x : List Byte} (hr : Rd w A x) (h1 : x.length ≤ c) (h2 : c ≤ maxLen) (hb : ∀ ad, A = some ad → ad.block ∈ F ∧ ad.block ∉ ctl) :
    Vals w F ctl (mput V k (.slice A x.length c)) (cput M k x) := by
  induction h with
  | nil => exact .cons hr h1 h2 hb .nil
  | @cons k' A' c' x' V M hr' h1' h2' hb' ht ih =>
    rw [mput, cput]
    by_cases h0 : k' = k
    · rw [if_pos h0, if_pos h0]; exact .cons hr h1 h2 hb ht
    · rw [if_neg h0, if_neg h0]; exact .cons hr' h1' h2' hb' ih
/-- What a disk holds: its bytes, its cache in order, how many operations it does ahead of the one that fails. -/
structure DiskSt where
  b : List Byte
  M : List (Int × List Byte)
  fuse : Option Int
/-- May it be? (so many sectors) -/
structure DiskSt.ok (D : DiskSt) (n : Nat) : Prop where
  len : D.b.length = 512 * n
  n1 : 1 ≤ n
  n2 : n ≤ 32768
  M : ∀ p ∈ D.M, 0 ≤ p.1 ∧ p.1 < n ∧ p.2.length = 512
  f : ∀ z, D.fuse = some z → 0 ≤ z ∧ z ≤ 9223372036854775807
def optBlk (O : Option Addr) : List Nat := O.toList.map (·.block)
/-- The fuse's block, and what it holds. -/
def FuseAt (w : World) (L : Option Nat) (f : Option Int) : Prop := match L, f with | none, none => True | some l, some z => w.heap[l]? = some (.cells #[.int .i64 z] 3 (0, 0)) | _, _ => False
/-- A disk at block g, which owns the blocks F. -/
def Dsk (w : World) (F : List Nat) (g n : Nat) (D : DiskSt) : Prop :=
  ∃ (gb c gm : Nat) (O : Option Addr) (oc : Nat) (L : Option Nat) (V : List (Int × Value)),
    w.heap[g]? = some (.cells #[.slice (some ⟨gb, 0, none⟩) (512 * n) c, .map (some gm), .slice O D.M.length oc, .pointer (L.map fun l => ⟨l, 0, none⟩)] 102 (0, 0)) ∧
    Own w 0 (.slice (some ⟨gb, 0, none⟩) (512 * n) c) D.b ∧ MapAt w gm V ∧ Vals w F ([g, gb, gm] ++ (optBlk O ++ L.toList)) V D.M ∧
    OwnV 3 w 0 (.slice O D.M.length oc) (D.M.map fun p => .int .i64 p.1) ∧
    FuseAt w L D.fuse ∧
    ([g, gb, gm] ++ (optBlk O ++ L.toList)).Nodup ∧ (∀ x ∈ [g, gb, gm] ++ (optBlk O ++ L.toList), x ∈ F) ∧ D.ok n ∧ ∀ x ∈ F, x < w.heap.size
end Go.Proofs.YtoidlmhebnlnbaaDoor
