/- Walks and laws that the claim's last text stands on, several texts in one file: XhP, PgP, RtP, Mk, Tb, Ts, Sched, SchL. Under the hypotheses that each theorem states. -/
import Derived.Laws.OwnMore
import Derived.Maps.AppendAt
import Derived.Test.YtihljjfnjclefaaMRta
/- The hash, in plain Lean. No program in sight. -/
set_option linter.unusedVariables false
set_option linter.unusedSimpArgs false
namespace Go.Proofs.Ytihljjfnjclefaa

def P1 : BitVec 64 := 11400714785074694791#64
def P2 : BitVec 64 := 14029467366897019727#64
def P3 : BitVec 64 := 1609587929392839161#64
def P4 : BitVec 64 := 9650029242287828579#64
def P5 : BitVec 64 := 2870177450012600261#64
/-- A word turned left. -/
def xrot (x : BitVec 64) (n : Nat) : BitVec 64 := x <<< n ||| x >>> (64 - n)
def xround (a w : BitVec 64) : BitVec 64 := xrot (a + w * 14029467366897019727#64) 31 * 11400714785074694791#64
def xmerge (h a : BitVec 64) : BitVec 64 := (h ^^^ xround 0#64 a) * 11400714785074694791#64 + 9650029242287828579#64
def xaval1 (h : BitVec 64) : BitVec 64 := (h ^^^ h >>> 33) * 14029467366897019727#64
def xaval2 (h : BitVec 64) : BitVec 64 := (h ^^^ h >>> 29) * 1609587929392839161#64
def xaval (h : BitVec 64) : BitVec 64 := xaval2 (xaval1 h) ^^^ (xaval2 (xaval1 h)) >>> 32
/-- The first bytes as a word, the lowest first. -/
def xword : List Byte → BitVec 64
  | [] => 0#64
  | b :: bs => b.setWidth 64 ||| (xword bs) <<< 8
def xlane (a : BitVec 64) (xs : List Byte) : BitVec 64 := xround a (xword (xs.take 8))
/-- So many bits as may be. -/
def xclip (n : Int) : Nat := (min 64 (max 0 n)).toNat
def xlow (h : BitVec 64) (n : Nat) : BitVec 64 := h &&& ~~~ (18446744073709551615#64 <<< n)
def xhigh (h : BitVec 64) (n : Nat) : BitVec 64 := h >>> (64 - n)

/-- The four lanes, of which the first j have taken their word. -/
def xpart (l : List (BitVec 64)) (ys : List Byte) : Nat → List (BitVec 64)
  | 0 => l
  | j + 1 => (xpart l ys j).set j (xround ((xpart l ys j).getD j 0#64) (xword ((ys.drop (8 * j)).take 8)))
theorem xpart_len (l : List (BitVec 64)) (ys : List Byte) (j : Nat) : (xpart l ys j).length = l.length := by
  induction j with
  | zero => rfl
  | succ j ih => simp [xpart, ih]
def xstart (s : BitVec 64) : List (BitVec 64) := [s + 11400714785074694791#64 + 14029467366897019727#64, s + 14029467366897019727#64, s, s - 11400714785074694791#64]
def xlanes (l : List (BitVec 64)) : BitVec 64 := xrot (l.getD 0 0#64) 1 + xrot (l.getD 1 0#64) 7 + xrot (l.getD 2 0#64) 12 + xrot (l.getD 3 0#64) 18
def xout (l : List (BitVec 64)) : BitVec 64 := l.foldl xmerge (xlanes l)
def xstep8 (h w : BitVec 64) : BitVec 64 := xrot (h ^^^ xround 0#64 w) 27 * 11400714785074694791#64 + 9650029242287828579#64
def xstep4 (h w : BitVec 64) : BitVec 64 := xrot (h ^^^ w * 11400714785074694791#64) 23 * 14029467366897019727#64 + 1609587929392839161#64
def xstep1 (h : BitVec 64) (c : Byte) : BitVec 64 := xrot (h ^^^ c.setWidth 64 * 2870177450012600261#64) 11 * 11400714785074694791#64
def x1s (h : BitVec 64) (xs : List Byte) : BitVec 64 := xs.foldl xstep1 h
def x4s (h : BitVec 64) (xs : List Byte) : BitVec 64 := if 4 ≤ xs.length then x1s (xstep4 h (xword (xs.take 4))) (xs.drop 4) else x1s h xs
def x8s (h : BitVec 64) (xs : List Byte) : BitVec 64 :=
  if 8 ≤ xs.length then x8s (xstep8 h (xword (xs.take 8))) (xs.drop 8) else x4s h xs
termination_by xs.length
decreasing_by simp; omega
def x32s (l : List (BitVec 64)) (n : BitVec 64) (xs : List Byte) : BitVec 64 :=
  if 32 ≤ xs.length then x32s (xpart l xs 4) n (xs.drop 32) else xaval (x8s (xout l + n) xs)
termination_by xs.length
decreasing_by simp; omega
theorem x8s_ge {h : BitVec 64} {xs : List Byte} (hx : 8 ≤ xs.length) : x8s h xs = x8s (xstep8 h (xword (xs.take 8))) (xs.drop 8) := by
  conv => lhs; unfold x8s
  rw [if_pos hx]
theorem x8s_lt {h : BitVec 64} {xs : List Byte} (hx : ¬ 8 ≤ xs.length) : x8s h xs = x4s h xs := by
  conv => lhs; unfold x8s
  rw [if_neg hx]
theorem x32s_ge {l : List (BitVec 64)} {n : BitVec 64} {xs : List Byte} (hx : 32 ≤ xs.length) : x32s l n xs = x32s (xpart l xs 4) n (xs.drop 32) := by
  conv => lhs; unfold x32s
  rw [if_pos hx]
theorem x32s_lt {l : List (BitVec 64)} {n : BitVec 64} {xs : List Byte} (hx : ¬ 32 ≤ xs.length) : x32s l n xs = xaval (x8s (xout l + n) xs) := by
  conv => lhs; unfold x32s
  rw [if_neg hx]
/-- The hash of bytes. -/
def xsum (s : BitVec 64) (xs : List Byte) : BitVec 64 :=
  if 32 ≤ xs.length then x32s (xstart s) (BitVec.ofNat 64 xs.length) xs else xaval (x8s (s + 2870177450012600261#64 + BitVec.ofNat 64 xs.length) xs)

/-! ### the number of a word that is shifted -/
theorem wrap_shl (x : BitVec 64) (k : Nat) : IntKind.u64.wrap (nb x * 2 ^ k) = nb (x <<< k) := by
  rw [wrap_u64]; unfold nb; rw [BitVec.toNat_shiftLeft, Nat.shiftLeft_eq]
  rw [Int.natCast_emod, Int.natCast_mul]; simp
theorem nb_shrk {n : Nat} (x : BitVec n) (k : Nat) : nb x / 2 ^ k = nb (x >>> k) := by
  have := nb_shr x k
  rw [← this]; simp
theorem sub64 (k : Nat) (h : k ≤ 64) : ((64 : Int) - k).toNat = 64 - k := by omega
theorem and63 (k : Nat) (h : k < 64) : bits .and .u64 (k : Int) 63 = k := by
  have := bits_and64 (BitVec.ofNat 64 k) 63#64 (Nat.le_refl _) (Nat.le_refl _)
  rw [nb_ofNat _ (by omega), nb_ofNat _ (by omega)] at this
  rw [show ((63 : Int)) = ((63 : Nat) : Int) from rfl, this]
  unfold nb
  simp
  rw [show (63 : Nat) = 2 ^ 6 - 1 from rfl, Nat.and_two_pow_sub_one_eq_mod]
  omega


theorem or_add8 (b : Byte) (y : BitVec 64) : b.setWidth 64 ||| y <<< 8 = b.setWidth 64 + y <<< 8 := by
  rw [BitVec.add_eq_or_of_and_eq_zero]
  ext i hi
  by_cases h8 : i < 8
  · simp [h8]
  · simp [BitVec.getLsbD_of_ge b i (by omega)]
theorem shl_add (a b : BitVec 64) (k : Nat) : (a + b) <<< k = a <<< k + b <<< k := by
  rw [BitVec.shiftLeft_eq_mul_twoPow, BitVec.shiftLeft_eq_mul_twoPow, BitVec.shiftLeft_eq_mul_twoPow, BitVec.add_mul]
theorem xword_add (xs : List Byte) (b : Byte) : xword (xs ++ [b]) = xword xs + (b.setWidth 64) <<< (8 * xs.length) := by
  induction xs with
  | nil => simp [xword]
  | cons x xs ih =>
    rw [List.cons_append, xword, ih, xword, or_add8, or_add8, shl_add, ← BitVec.add_assoc]
    congr 1
    rw [List.length_cons, show 8 * (xs.length + 1) = 8 * xs.length + 8 by omega, BitVec.shiftLeft_add]
end Go.Proofs.Ytihljjfnjclefaa
/- page, plain: the bytes of a page; reading them; a byte that is changed. -/
set_option linter.unusedVariables false
set_option linter.unusedSimpArgs false
namespace Go.Proofs.Ytihljjfnjclefaa

theorem pg_xword_bit (q : Nat) : ∀ (n : BitVec 64), 8 * q ≤ 64 → ∀ j, (xword (oword q n)).getLsbD j = (decide (j < 8 * q) && n.getLsbD j) := by
  induction q with
  | zero => intro n h j; simp [oword, xword]
  | succ q ih =>
    intro n h j
    rw [oword, xword]
    simp only [BitVec.getLsbD_or, BitVec.getLsbD_setWidth, BitVec.getLsbD_shiftLeft, ih (n >>> 8) (by omega), BitVec.getLsbD_ushiftRight]
    by_cases h8 : j < 8
    · simp [h8, show j < 64 by omega, show j < 8 * (q + 1) by omega]
    · rcases Nat.lt_or_ge j 64 with h64 | h64
      · rw [show 8 + (j - 8) = j by omega]
        by_cases hq : j < 8 * (q + 1)
        · simp [h8, h64, hq, show j - 8 < 8 * q by omega]
        · simp [h8, h64, hq, show ¬ j - 8 < 8 * q by omega]
      · rw [BitVec.getLsbD_of_ge n j h64]
        simp [h8, show ¬ j < 64 by omega]
/-- A word that was written is read: modulo what its bytes hold. -/
theorem pg_xword (q : Nat) (n : BitVec 64) (h : 8 * q ≤ 64) : (xword (oword q n)).toNat = n.toNat % 2 ^ (8 * q) := by
  have e : xword (oword q n) = (n.setWidth (8 * q)).setWidth 64 := by
    apply BitVec.eq_of_getLsbD_eq
    intro j hj
    rw [pg_xword_bit q n h, BitVec.getLsbD_setWidth, BitVec.getLsbD_setWidth]
    simp [hj]
  rw [e, BitVec.toNat_setWidth, BitVec.toNat_setWidth]
  refine Nat.mod_eq_of_lt (Nat.lt_of_lt_of_le (Nat.mod_lt _ (Nat.two_pow_pos _)) (Nat.pow_le_pow_right (by omega) h))
def z4 : List Byte := [0#8, 0#8, 0#8, 0#8]
def pgHd (k : Byte) (n : BitVec 32) : List Byte := [0x54#8, 0x4d#8, 1#8, k] ++ oword 4 (n.setWidth 64) ++ z4
def pgPad (x : List Byte) : List Byte := x ++ List.replicate (4080 - x.length) 0#8
def pgSum (k : Byte) (n : BitVec 32) (x : List Byte) : BitVec 32 := crcSum (pgHd k n ++ (z4 ++ pgPad x))
def pgBytes (k : Byte) (n : BitVec 32) (x : List Byte) : List Byte := pgHd k n ++ (oword 4 ((pgSum k n x).setWidth 64) ++ pgPad x)
def pgOk (K : Int) (x : List Byte) : Bool := decide (1 ≤ K) && decide (K ≤ 7) && decide (x.length ≤ 4080)
theorem pgOk_iff {K : Int} {x : List Byte} : pgOk K x = true ↔ 1 ≤ K ∧ K ≤ 7 ∧ x.length ≤ 4080 := by
  unfold pgOk
  simp only [Bool.and_eq_true, decide_eq_true_eq]
  exact ⟨fun h => ⟨h.1.1, h.1.2, h.2⟩, fun h => ⟨⟨h.1, h.2.1⟩, h.2.2⟩⟩
def pgB (K : Int) (n : BitVec 32) (x : List Byte) : List Byte × Int := if pgOk K x then (pgBytes (BitVec.ofInt 8 K) n x, 0) else ([], 2)
def pgKd (b : List Byte) : Int := nb (b.getD 3 0#8)
def pgNm (b : List Byte) : BitVec 32 := (xword ((b.drop 4).take 4)).setWidth 32
def pgR (b : List Byte) : (Int × BitVec 32 × List Byte) × Int :=
  if b.length = 4096 ∧ pgB (pgKd b) (pgNm b) (b.drop 16) = (b, 0) then ((pgKd b, pgNm b, b.drop 16), 0) else ((0, 0#32, []), 4)

theorem pgHd_len (k : Byte) (n : BitVec 32) : (pgHd k n).length = 12 := by simp [pgHd, oword_len, z4]
theorem pgPad_len {x : List Byte} (h : x.length ≤ 4080) : (pgPad x).length = 4080 := by simp [pgPad]; omega
theorem pgPad_pad {x : List Byte} (h : x.length = 4080) : pgPad x = x := by simp [pgPad, h]
theorem pgBytes_len (k : Byte) (n : BitVec 32) {x : List Byte} (h : x.length ≤ 4080) : (pgBytes k n x).length = 4096 := by
  simp [pgBytes, pgHd_len, oword_len, pgPad_len h]
theorem pgBytes_pad (k : Byte) (n : BitVec 32) {x : List Byte} (h : x.length ≤ 4080) : pgBytes k n (pgPad x) = pgBytes k n x := by
  have e := pgPad_pad (pgPad_len h)
  unfold pgBytes pgSum
  rw [e]
theorem pgBytes_take (k : Byte) (n : BitVec 32) (x : List Byte) : (pgBytes k n x).take 12 = pgHd k n := by
  unfold pgBytes; rw [List.take_append_of_le_length (by rw [pgHd_len]; omega), List.take_of_length_le (by rw [pgHd_len]; omega)]
theorem pgBytes_drop12 (k : Byte) (n : BitVec 32) (x : List Byte) : (pgBytes k n x).drop 12 = oword 4 ((pgSum k n x).setWidth 64) ++ pgPad x := by
  unfold pgBytes
  rw [List.drop_append_of_le_length (by rw [pgHd_len]; omega), List.drop_of_length_le (by rw [pgHd_len]; omega), List.nil_append]
theorem pgBytes_drop (k : Byte) (n : BitVec 32) (x : List Byte) : (pgBytes k n x).drop 16 = pgPad x := by
  rw [show 16 = 12 + 4 from rfl, ← List.drop_drop, pgBytes_drop12]
  rw [List.drop_append_of_le_length (by rw [oword_len]; omega), List.drop_of_length_le (by rw [oword_len]; omega), List.nil_append]
theorem pgKd_bytes (k : Byte) (n : BitVec 32) (x : List Byte) : pgKd (pgBytes k n x) = nb k := rfl
theorem pgNm_bytes (k : Byte) (n : BitVec 32) (x : List Byte) : pgNm (pgBytes k n x) = n := by
  have e : ((pgBytes k n x).drop 4).take 4 = oword 4 (n.setWidth 64) := by
    unfold pgBytes pgHd
    rw [List.append_assoc, List.append_assoc, List.drop_append_of_le_length (by simp), List.drop_of_length_le (by simp), List.nil_append, List.take_append_of_le_length (by rw [oword_len]; omega), List.take_of_length_le (by rw [oword_len]; omega)]
  unfold pgNm
  rw [e]
  apply BitVec.eq_of_toNat_eq
  rw [BitVec.toNat_setWidth, pg_xword 4 _ (by omega), BitVec.toNat_setWidth]
  have := n.isLt
  omega
theorem nb_kind {K : Int} (h : 1 ≤ K ∧ K ≤ 7) : nb (BitVec.ofInt 8 K) = K := nb_ofInt _ (by omega) (by omega)
theorem pgR_bytes {K : Int} {n : BitVec 32} {x : List Byte} (h : pgOk K x = true) : pgR (pgBytes (BitVec.ofInt 8 K) n x) = ((K, n, pgPad x), 0) := by
  have o := pgOk_iff.1 h
  have ek : pgKd (pgBytes (BitVec.ofInt 8 K) n x) = K := by rw [pgKd_bytes, nb_kind ⟨o.1, o.2.1⟩]
  unfold pgR
  rw [ek, pgNm_bytes, pgBytes_drop, if_pos]
  refine ⟨pgBytes_len _ _ o.2.2, ?_⟩
  unfold pgB
  rw [if_pos (pgOk_iff.2 ⟨o.1, o.2.1, by rw [pgPad_len o.2.2]; omega⟩), pgBytes_pad _ _ o.2.2]
theorem pgR_ok {b : List Byte} {p : Int × BitVec 32 × List Byte} (h : pgR b = (p, 0)) : pgB p.1 p.2.1 p.2.2 = (b, 0) ∧ b.length = 4096 := by
  unfold pgR at h
  split at h
  · rename_i hc
    obtain rfl : p = _ := (congrArg Prod.fst h).symm
    exact ⟨hc.2, hc.1⟩
  · have := congrArg Prod.snd h; simp at this
/-- The sum stands where it should. -/
theorem pgB_sum {K : Int} {n : BitVec 32} {x b : List Byte} (h : pgB K n x = (b, 0)) : b.length = 4096 ∧ (b.drop 12).take 4 = oword 4 ((crcSum (b.take 12 ++ (z4 ++ b.drop 16))).setWidth 64) := by
  unfold pgB at h
  split at h
  · rename_i ho
    have o := pgOk_iff.1 ho
    obtain rfl : b = _ := (congrArg Prod.fst h).symm
    refine ⟨pgBytes_len _ _ o.2.2, ?_⟩
    rw [pgBytes_take, pgBytes_drop, pgBytes_drop12, List.take_append_of_le_length (by rw [oword_len]; omega), List.take_of_length_le (by rw [oword_len]; omega)]
    rfl
  · have := congrArg Prod.snd h; simp at this
theorem oword4_inj {x y : BitVec 32} (h : oword 4 (x.setWidth 64) = oword 4 (y.setWidth 64)) : x = y := by
  have e := congrArg (fun l => (xword l).toNat) h
  simp only [pg_xword 4 _ (show 8 * 4 ≤ 64 by omega), BitVec.toNat_setWidth] at e
  apply BitVec.eq_of_toNat_eq
  have := x.isLt; have := y.isLt
  omega
theorem xors_set (l : List Byte) (i : Nat) (d : Byte) (h : i < l.length) : xors (l.set i (l[i] ^^^ d)) l = List.replicate i 0#8 ++ [d] ++ List.replicate (l.length - i - 1) 0#8 := by
  apply List.ext_getElem
  · simp [xors]; omega
  · intro j h1 h2
    simp only [xors, List.getElem_zipWith, List.getElem_set]
    by_cases e : i = j
    · subst e
      rw [if_pos rfl, List.getElem_append_left (by simp), List.getElem_append_right (by simp)]
      simp only [List.length_replicate, Nat.sub_self, List.getElem_cons_zero]
      rw [BitVec.xor_comm, ← BitVec.xor_assoc, BitVec.xor_self, BitVec.zero_xor]
    · rw [if_neg e, BitVec.xor_self]
      by_cases hj : j < i
      · rw [List.getElem_append_left (by simp; omega), List.getElem_append_left (by simpa using hj)]; simp
      · rw [List.getElem_append_right (by simp; omega)]; simp
theorem sum_set (l : List Byte) (i : Nat) (d : Byte) (h : i < l.length) : crcSum (l.set i (l[i] ^^^ d)) = crcSum l ↔ d = 0#8 := by
  rw [crcSum_eq _ _ (by simp), xors_set l i d h, fold_change _ _ _ (by simp)]
  simp
/-- With one byte changed it is not read. -/
theorem pg_change {b : List Byte} {K K' : Int} {n n' : BitVec 32} {x x' : List Byte} (h : pgB K n x = (b, 0)) (i : Nat) (hi : i < b.length) (d : Byte) (h' : pgB K' n' x' = (b.set i (b[i] ^^^ d), 0)) : d = 0#8 := by
  obtain ⟨hl, hs⟩ := pgB_sum h
  obtain ⟨hl', hs'⟩ := pgB_sum h'
  by_cases h1 : 12 ≤ i ∧ i < 16
  · have e16 : (b.set i (b[i] ^^^ d)).drop 16 = b.drop 16 := List.drop_set_of_lt (by omega)
    rw [List.take_set_of_le (by omega), e16, ← hs] at hs'
    have e := congrArg (fun l => l[i - 12]?) hs'
    simp only [List.getElem?_take, List.getElem?_drop, show i - 12 < 4 by omega, if_true, show 12 + (i - 12) = i by omega] at e
    rw [List.getElem?_set, if_pos rfl, if_pos hi, List.getElem?_eq_getElem hi] at e
    have e2 := Option.some.inj e
    have e3 : b[i] ^^^ (b[i] ^^^ d) = b[i] ^^^ b[i] := by rw [e2]
    rwa [← BitVec.xor_assoc, BitVec.xor_self, BitVec.zero_xor] at e3
  · have hz : (b.set i (b[i] ^^^ d)).take 12 ++ (z4 ++ (b.set i (b[i] ^^^ d)).drop 16) = (b.take 12 ++ (z4 ++ b.drop 16)).set i ((b.take 12 ++ (z4 ++ b.drop 16))[i]'(by simp [z4]; omega) ^^^ d) ∧ ((b.set i (b[i] ^^^ d)).drop 12).take 4 = (b.drop 12).take 4 := by
      constructor
      · apply List.ext_getElem?
        intro j
        by_cases hj : j < 12
        · rw [List.getElem?_append_left (by simp; omega), List.getElem?_take, if_pos hj, List.getElem?_set, List.getElem?_set]
          by_cases e : i = j
          · subst e
            rw [if_pos rfl, if_pos rfl, if_pos hi, if_pos (by simp [z4]; omega), List.getElem_append_left (by simp; omega), List.getElem_take]
          · rw [if_neg e, if_neg e, List.getElem?_append_left (by simp; omega), List.getElem?_take, if_pos hj]
        · by_cases hj2 : j < 16
          · have e : ¬ i = j := by omega
            rw [List.getElem?_append_right (by simp; omega), List.getElem?_append_left (by simp [z4]; omega), List.getElem?_set, if_neg e, List.getElem?_append_right (by simp; omega), List.getElem?_append_left (by simp [z4]; omega)]
            simp [hl]
          · rw [List.getElem?_append_right (by simp; omega), List.getElem?_append_right (by simp [z4]; omega), List.getElem?_drop, List.getElem?_set, List.getElem?_set]
            have ej : 16 + (j - (List.take 12 (b.set i (b[i] ^^^ d))).length - z4.length) = j := by simp [z4]; omega
            rw [ej]
            by_cases e : i = j
            · subst e
              rw [if_pos rfl, if_pos rfl, if_pos hi, if_pos (by simp [z4]; omega), List.getElem_append_right (by simp; omega), List.getElem_append_right (by simp [z4]; omega), List.getElem_drop]
              congr 3
              simp [z4]; omega
            · rw [if_neg e, if_neg e, List.getElem?_append_right (by simp; omega), List.getElem?_append_right (by simp [z4]; omega), List.getElem?_drop]
              congr 1
              simp [z4]; omega
      · apply List.ext_getElem?
        intro j
        rw [List.getElem?_take, List.getElem?_take]
        by_cases hj : j < 4
        · rw [if_pos hj, if_pos hj, List.getElem?_drop, List.getElem?_drop, List.getElem?_set, if_neg (by omega)]
        · rw [if_neg hj, if_neg hj]
    rw [hz.2, hz.1, hs] at hs'
    exact (sum_set _ i d _).1 (oword4_inj hs').symm
/-! ### noughts at the end -/
def trimz (x : List Byte) : List Byte := (x.reverse.dropWhile (· == 0#8)).reverse
theorem trimz_nil : trimz [] = [] := rfl
theorem trimz_zero (l : List Byte) : trimz (l ++ [0#8]) = trimz l := by unfold trimz; rw [List.reverse_append]; rfl
theorem trimz_other (l : List Byte) {b : Byte} (h : b ≠ 0#8) : trimz (l ++ [b]) = l ++ [b] := by
  unfold trimz
  rw [List.reverse_append, List.reverse_singleton, List.singleton_append, List.dropWhile_cons, if_neg (by simpa using h), List.reverse_cons, List.reverse_reverse]
theorem trimz_zeros (l : List Byte) (m : Nat) : trimz (l ++ List.replicate m 0#8) = trimz l := by
  induction m with
  | zero => simp
  | succ m ih => rw [List.replicate_succ', ← List.append_assoc, trimz_zero, ih]
theorem trimz_pad (x : List Byte) : trimz (pgPad x) = trimz x := trimz_zeros x _
theorem trimz_len (x : List Byte) : (trimz x).length ≤ x.length := by
  unfold trimz
  rw [List.length_reverse]
  have := (List.dropWhile_suffix (l := x.reverse) (· == 0#8)).length_le
  rwa [List.length_reverse] at this
theorem trimz_pre (x : List Byte) : trimz x = x.take (trimz x).length := by
  have h := (List.dropWhile_suffix (l := x.reverse) (· == 0#8))
  have h2 : trimz x <+: x := by
    unfold trimz
    have := List.reverse_prefix.2 h
    rwa [List.reverse_reverse] at this
  exact List.prefix_iff_eq_take.1 h2
def pgSame (K : Int) (n : BitVec 32) (x : List Byte) (K' : Int) (n' : BitVec 32) (y : List Byte) : Bool := decide (K = K') && decide (n = n') && decide (trimz x = trimz y)
end Go.Proofs.Ytihljjfnjclefaa
/- root, plain: the bytes of a root; reading them; which counts. -/
set_option linter.unusedVariables false
set_option linter.unusedSimpArgs false
namespace Go.Proofs.Ytihljjfnjclefaa

/-- A root. -/
structure Rt where
  E : BitVec 64
  P : BitVec 64
  T : BitVec 64
  S : BitVec 64
  L : BitVec 64
  a : BitVec 64
  b : BitVec 64
  c : BitVec 64
  d : BitVec 64
def rt0 : Rt := ⟨0#64, 0#64, 0#64, 0#64, 0#64, 0#64, 0#64, 0#64, 0#64⟩
/-- A root, as a value; what its block holds. -/
def rtCs (r : Rt) : Array Value := #[.int .u64 (nb r.E), .int .u64 (nb r.P), .int .u64 (nb r.T), .int .u64 (nb r.S), .int .u64 (nb r.L), .int .u64 (nb r.a), .int .u64 (nb r.b), .int .u64 (nb r.c), .int .u64 (nb r.d)]
def rtV (r : Rt) : Value := .agg (rtCs r)
def rtHead (n p : BitVec 64) : Bool := decide (n.toNat = 0) || (decide (2 ≤ n.toNat) && decide (n.toNat < p.toNat))
theorem rtHead_iff {n p : BitVec 64} : rtHead n p = true ↔ n.toNat = 0 ∨ (2 ≤ n.toNat ∧ n.toNat < p.toNat) := by unfold rtHead; simp
def rtOk (r : Rt) : Bool := decide (1 ≤ r.E.toNat) && decide (8 ≤ r.P.toNat) && decide (r.P.toNat ≤ 4096) && decide (r.L.toNat ≤ 65536) && rtHead r.T r.P && rtHead r.S r.P
theorem rtOk_iff {r : Rt} : rtOk r = true ↔ 1 ≤ r.E.toNat ∧ 8 ≤ r.P.toNat ∧ r.P.toNat ≤ 4096 ∧ r.L.toNat ≤ 65536 ∧ rtHead r.T r.P = true ∧ rtHead r.S r.P = true := by
  unfold rtOk
  simp only [Bool.and_eq_true, decide_eq_true_eq]
  exact ⟨fun h => ⟨h.1.1.1.1.1, h.1.1.1.1.2, h.1.1.1.2, h.1.1.2, h.1.2, h.2⟩, fun h => ⟨⟨⟨⟨⟨h.1, h.2.1⟩, h.2.2.1⟩, h.2.2.2.1⟩, h.2.2.2.2.1⟩, h.2.2.2.2.2⟩⟩
def rtChk (r : Rt) : Int := if rtOk r then 0 else 2
def rtWs (r : Rt) : List (BitVec 64) := [r.E, r.P, r.T, r.S, r.L, r.a, r.b, r.c, r.d]
def owords (l : List (BitVec 64)) : List Byte := l.flatMap (oword 8)
def rtBody (r : Rt) : List Byte := owords (rtWs r)
def rtB (r : Rt) : List Byte × Int := if rtOk r then pgB 1 (r.E.setWidth 32) (rtBody r) else ([], 2)
def rw8 (x : List Byte) (k : Nat) : BitVec 64 := xword ((x.drop (8 * k)).take 8)
def rtOf (x : List Byte) : Rt := ⟨rw8 x 0, rw8 x 1, rw8 x 2, rw8 x 3, rw8 x 4, rw8 x 5, rw8 x 6, rw8 x 7, rw8 x 8⟩
def rtR (b : List Byte) : Rt × Int := if (pgR b).2 = 0 ∧ (pgR b).1.1 = 1 ∧ rtB (rtOf (pgR b).1.2.2) = (b, 0) then (rtOf (pgR b).1.2.2, 0) else (rt0, 4)
def rtSlot (r : Rt) : Nat := r.E.toNat % 2
def rtCh (a b : Rt) (p q : Bool) : Rt × Bool := if p && (!q || decide (b.E.toNat ≤ a.E.toNat)) then (a, true) else if q then (b, true) else (rt0, false)

theorem owords_len (l : List (BitVec 64)) : (owords l).length = 8 * l.length := by
  unfold owords
  induction l with
  | nil => rfl
  | cons x l ih => rw [List.flatMap_cons, List.length_append, ih, oword_len, List.length_cons]; omega
theorem owords_snoc (l : List (BitVec 64)) (x : BitVec 64) : owords (l ++ [x]) = owords l ++ oword 8 x := by unfold owords; simp
theorem rtBody_len (r : Rt) : (rtBody r).length = 72 := by unfold rtBody; rw [owords_len]; rfl
theorem xword8 (n : BitVec 64) : xword (oword 8 n) = n := by
  apply BitVec.eq_of_toNat_eq
  rw [pg_xword 8 n (by omega)]
  have := n.isLt; omega
theorem rw8_zero (n : BitVec 64) (x : List Byte) : rw8 (oword 8 n ++ x) 0 = n := by
  unfold rw8
  rw [Nat.mul_zero, List.drop_zero, List.take_append_of_le_length (by rw [oword_len]; omega), List.take_of_length_le (by rw [oword_len]; omega), xword8]
theorem rw8_succ (n : BitVec 64) (x : List Byte) (k : Nat) : rw8 (oword 8 n ++ x) (k + 1) = rw8 x k := by
  unfold rw8
  rw [show 8 * (k + 1) = 8 + 8 * k by omega, ← List.drop_drop, show (oword 8 n ++ x).drop 8 = x from by rw [List.drop_append_of_le_length (by rw [oword_len]; omega), List.drop_of_length_le (by rw [oword_len]; omega), List.nil_append]]
theorem rtOf_body (r : Rt) (z : List Byte) : rtOf (rtBody r ++ z) = r := by
  obtain ⟨e, p, t, s, l, a, b, c, d⟩ := r
  have h : rtBody ⟨e, p, t, s, l, a, b, c, d⟩ ++ z = oword 8 e ++ (oword 8 p ++ (oword 8 t ++ (oword 8 s ++ (oword 8 l ++ (oword 8 a ++ (oword 8 b ++ (oword 8 c ++ (oword 8 d ++ z)))))))) := by
    unfold rtBody owords rtWs
    simp [List.flatMap_cons]
  rw [h]
  unfold rtOf
  simp only [rw8_zero, rw8_succ]
theorem rtB_ok {r : Rt} {x : List Byte} (h : rtB r = (x, 0)) : rtOk r = true ∧ x = pgBytes 1#8 (r.E.setWidth 32) (rtBody r) ∧ x.length = 4096 ∧ pgB 1 (r.E.setWidth 32) (rtBody r) = (x, 0) := by
  unfold rtB at h
  split at h
  · rename_i ho
    have h2 := h
    unfold pgB at h2
    rw [if_pos (pgOk_iff.2 ⟨by omega, by omega, by rw [rtBody_len]; omega⟩)] at h2
    have hx : x = pgBytes 1#8 (r.E.setWidth 32) (rtBody r) := (congrArg Prod.fst h2).symm
    exact ⟨ho, hx, by rw [hx]; exact pgBytes_len _ _ (by rw [rtBody_len]; omega), h⟩
  · have := congrArg Prod.snd h; simp at this
theorem rtB_of {r : Rt} (h : rtOk r = true) : rtB r = (pgBytes 1#8 (r.E.setWidth 32) (rtBody r), 0) := by
  unfold rtB pgB
  rw [if_pos h, if_pos (pgOk_iff.2 ⟨by omega, by omega, by rw [rtBody_len]; omega⟩)]; rfl
theorem rtB_off {r : Rt} (h : rtOk r = false) : rtB r = ([], 2) := by unfold rtB; rw [h]; rfl
theorem rtR_bytes {r : Rt} {x : List Byte} (h : rtB r = (x, 0)) : rtR x = (r, 0) := by
  obtain ⟨-, hx, -, hp⟩ := rtB_ok h
  have e : pgR x = ((1, r.E.setWidth 32, pgPad (rtBody r)), 0) := by
    rw [hx]
    exact pgR_bytes (K := 1) (pgOk_iff.2 ⟨by omega, by omega, by rw [rtBody_len]; omega⟩)
  have eo : rtOf (pgPad (rtBody r)) = r := by unfold pgPad; exact rtOf_body r _
  unfold rtR
  rw [e]
  simp only [eo]
  rw [if_pos ⟨trivial, trivial, h⟩]
theorem rtR_ok {b : List Byte} {r : Rt} (h : rtR b = (r, 0)) : rtB r = (b, 0) := by
  unfold rtR at h
  split at h
  · rename_i hc
    obtain rfl : r = _ := (congrArg Prod.fst h).symm
    exact hc.2.2
  · have := congrArg Prod.snd h; simp at this
theorem rtR_err (b : List Byte) : (rtR b).2 = 0 ∨ rtR b = (rt0, 4) := by
  unfold rtR
  split
  · exact .inl rfl
  · exact .inr rfl
/-- With one byte changed nothing is read. -/
theorem rt_change {r : Rt} {x : List Byte} (h : rtB r = (x, 0)) (i : Nat) (hi : i < x.length) (d : Byte) : (rtR (x.set i (x[i] ^^^ d))).2 = 0 ↔ d = 0#8 := by
  constructor
  · intro h2
    obtain ⟨s, hs⟩ : ∃ s, rtR (x.set i (x[i] ^^^ d)) = (s, 0) := ⟨_, Prod.ext rfl h2⟩
    exact pg_change (rtB_ok h).2.2.2 i hi d (rtB_ok (rtR_ok hs)).2.2.2
  · rintro rfl
    rw [BitVec.xor_zero, List.set_getElem_self, rtR_bytes h]
theorem rtB_len {r : Rt} {ys : List Byte} {e : Int} (h : rtB r = (ys, e)) : (e = 0 ∧ ys.length = 4096 ∧ rtOk r = true) ∨ (e = 2 ∧ ys = [] ∧ rtOk r = false) := by
  cases ho : rtOk r with
  | true =>
    rw [rtB_of ho] at h
    cases h
    exact .inl ⟨rfl, pgBytes_len _ _ (by rw [rtBody_len]; omega), rfl⟩
  | false =>
    rw [rtB_off ho] at h
    cases h
    exact .inr ⟨rfl, rfl, rfl⟩
/-- Are two roots the same? -/
def rtEq (a b : Rt) : Bool := decide (a.E = b.E) && decide (a.P = b.P) && decide (a.T = b.T) && decide (a.S = b.S) && decide (a.L = b.L) && (decide (a.a = b.a) && decide (a.b = b.b) && decide (a.c = b.c) && decide (a.d = b.d))
theorem rtEq_iff {a b : Rt} : rtEq a b = true ↔ a = b := by
  obtain ⟨e, p, t, s, l, m, n, o, q⟩ := a
  obtain ⟨e', p', t', s', l', m', n', o', q'⟩ := b
  unfold rtEq
  simp only [Bool.and_eq_true, decide_eq_true_eq, Rt.mk.injEq, and_assoc]
theorem rtEq_self (a : Rt) : rtEq a a = true := rtEq_iff.2 rfl
theorem rtEq_off {a b : Rt} (h : a ≠ b) : rtEq a b = false := by
  cases e : rtEq a b with
  | false => rfl
  | true => exact absurd (rtEq_iff.1 e) h
end Go.Proofs.Ytihljjfnjclefaa
/- make([]byte, n): noughts. -/
set_option linter.unusedVariables false
set_option linter.unusedSimpArgs false
namespace Go.Proofs.Ytihljjfnjclefaa
open Go.ChangeShapes Go.WideShapes Go.ChangeAt Go.RowKit

theorem vbs_zeros (n : Nat) : vbs (List.replicate n 0#8) = List.replicate n (.int .u8 0) := by simp [vbs, vb, nb]
theorem mk_bytes (k : Int) (n : Nat) (hk : k = n) (hn : n ≤ 1000000000) : ∃ C : Array Value,
    (∀ W : World, (Instr.makeSlice 22 (.int .i64 k) (.int .i64 k)).run Try.prog W = .ok (.slice (some ⟨W.heap.size, 0, none⟩) n n) (W.alloc (.cells C 5))) ∧
    C = (vbs (List.replicate n 0#8)).toArray := by
  subst hk
  obtain ⟨i, hi, hz, hsz, hb⟩ := info_parts info_u8
  refine ⟨madeCells #[.int .u8 0] n, fun W => ?_, ?_⟩
  · have h := run_make (P := Try.prog) W 22 5 i _ Try.underlying22 hi hz .i64 .i64 (n : Int) (n : Int) (by omega) (Int.le_refl _) (by rw [hb]; omega) (by omega)
    rw [hsz] at h
    simpa [Value.cells] using h
  · rw [vbs_zeros, ← toList_madeCells_one]
theorem rd_mk {C : Array Value} {n : Nat} (hC : C = (vbs (List.replicate n 0#8)).toArray) (W : World) (g : Nat) (hg : g = W.heap.size) : Rd (W.alloc (.cells C 5)) (some ⟨g, 0, none⟩) (List.replicate n 0#8) := by
  subst hC; exact RdV.lit W _ _ hg
end Go.Proofs.Ytihljjfnjclefaa
/- What may turn between two worlds: one block. -/
set_option linter.unusedVariables false
set_option linter.unusedSimpArgs false
namespace Go.Proofs.Ytihljjfnjclefaa
open Go.ChangeShapes Go.WideShapes Go.ChangeAt Go.RowKit

/-- w' has come out of w: what was there is as it was, but for block g. -/
def TB (g : Nat) (w w' : World) : Prop := w.grownBy w' (some g)
theorem TB.refl (g : Nat) (w : World) : TB g w w := ⟨rfl, rfl, rfl, Nat.le_refl _, fun _ _ _ => rfl⟩
theorem TB.trans {g : Nat} {a b c : World} (h : TB g a b) (k : TB g b c) : TB g a c := World.grownBy.trans h k
theorem TB.le {g : Nat} {a b : World} (h : TB g a b) : a.heap.size ≤ b.heap.size := h.size
theorem TB.of {g : Nat} {a b : World} (h : FB a b) : TB g a b := ⟨h.os, h.tape, h.output, h.size, fun k hk _ => h.out.block k hk⟩
theorem TB.fb {g : Nat} {a b c : World} (h : TB g a b) (k : FB b c) : TB g a c := h.trans (TB.of k)
theorem TB.out {g : Nat} {a b : World} (h : TB g a b) : a.grownBy b (some g) := h
theorem FB.tb {w0 w w' : World} {g : Nat} (h : FB w0 w) (k : TB g w w') (hg : w0.heap.size ≤ g) : FB w0 w' := h.grown k (fun j hj => by cases hj; exact hg)
theorem TB.set {g : Nat} (w : World) (i : Nat) (v : Value) : TB g w (w.setCell ⟨g, i, none⟩ v) :=
  ⟨rfl, rfl, rfl, by simp, fun k _ hk => heap_setCell_other w _ k v (fun e => hk (by simp [e]))⟩
theorem TB.rd {g : Nat} {w w' : World} (h : TB g w w') {A : Option Addr} {xs : List Byte} (hr : Rd w A xs) (ha : ∀ ad, A = some ad → ad.block ≠ g) : Rd w' A xs :=
  RdV.move hr fun a v e hc => h.out.cell hc (by
    cases A with
    | none => cases e
    | some ad => simp at e; have := ha ad rfl; simp; omega)
theorem TB.own {g : Nat} {w w' : World} (h : TB g w w') {base : Nat} {v : Value} {xs : List Byte} (hr : Own w base v xs) (ha : g < base) : Own w' base v xs :=
  OwnV.grown hr h (by
    cases hv : v.ownBlock with
    | none => exact .inl rfl
    | some k => right; have := Own.bnd hr k hv; simp; omega)

theorem frozen_row (w : World) {g : Nat} {cs : Array Value} {t : TypeId} (h : w.heap[g]? = some (.cells cs t (0, 0))) (j : Nat) : w.frozen? ⟨g, j, none⟩ = false := by simp [World.frozen?, h]
end Go.Proofs.Ytihljjfnjclefaa
/- What may turn between two worlds: some blocks. -/
set_option linter.unusedVariables false
set_option linter.unusedSimpArgs false
namespace Go.Proofs.Ytihljjfnjclefaa
open Go.ChangeShapes Go.WideShapes Go.ChangeAt Go.RowKit

/-- w' has come out of w: what was there is as it was, but for these blocks. -/
structure TS (F : List Nat) (w w' : World) : Prop where
  os : w'.os = w.os
  tape : w'.tape = w.tape
  output : w'.output = w.output
  size : w.heap.size ≤ w'.heap.size
  block : ∀ k, k < w.heap.size → k ∉ F → w'.heap[k]? = w.heap[k]?
theorem TS.refl (F : List Nat) (w : World) : TS F w w := ⟨rfl, rfl, rfl, Nat.le_refl _, fun _ _ _ => rfl⟩
theorem TS.of {F : List Nat} {w w' : World} (h : FB w w') : TS F w w' := ⟨h.os, h.tape, h.output, h.size, fun k hk _ => h.out.block k hk⟩
theorem TS.tb {F : List Nat} {g : Nat} {w w' : World} (h : TB g w w') (hg : g ∈ F) : TS F w w' := ⟨h.os, h.tape, h.output, h.size, fun k hk hn => h.out.block k hk (fun e => by simp at e; subst e; exact hn hg)⟩
theorem TS.trans {F F' : List Nat} {a b c : World} (h : TS F a b) (k : TS F' b c) (hf : ∀ x ∈ F', x ∈ F ∨ a.heap.size ≤ x) : TS F a c :=
  ⟨k.os.trans h.os, k.tape.trans h.tape, k.output.trans h.output, Nat.le_trans h.size k.size, fun x hx hn => (k.block x (Nat.lt_of_lt_of_le hx h.size) (fun hm => by rcases hf x hm with h | h; exact hn h; omega)).trans (h.block x hx hn)⟩
theorem TS.then {F : List Nat} {a b c : World} (h : TS F a b) (k : TS F b c) : TS F a c := h.trans k (fun x hx => .inl hx)
theorem FB.ts {w0 w w' : World} {F : List Nat} (h : FB w0 w) (k : TS F w w') (hf : ∀ x ∈ F, w0.heap.size ≤ x) : FB w0 w' :=
  ⟨k.os.trans h.out.os, k.tape.trans h.out.tape, k.output.trans h.out.output, Nat.le_trans h.le k.size, fun x hx => (k.block x (Nat.lt_of_lt_of_le hx h.le) (fun hm => by have := hf x hm; omega)).trans (h.block x hx)⟩
theorem TS.cell {F : List Nat} {w w' : World} (h : TS F w w') {a : Addr} {v : Value} (hc : w.cell? a = some v) (ha : a.block ∉ F) : w'.cell? a = some v := by
  exact (World.cell?_of_block (w := w) (h.block a.block (World.block_lt_of_cell? w a hc) ha)).trans hc
theorem TS.rd {F : List Nat} {w w' : World} (h : TS F w w') {A : Option Addr} {xs : List Byte} (hr : Rd w A xs) (ha : ∀ ad, A = some ad → ad.block ∉ F) : Rd w' A xs :=
  RdV.move hr fun a v e hc => h.cell hc (by
    cases A with
    | none => cases e
    | some ad => simp at e; have := ha ad rfl; rw [← e]; exact this)
theorem TS.ownV {F : List Nat} {e : TypeId} {w w' : World} (h : TS F w w') {base : Nat} {v : Value} {vs : List Value} (hr : OwnV e w base v vs) (ha : ∀ k, v.ownBlock = some k → k ∉ F) : OwnV e w' base v vs := by
  unfold OwnV at *
  rcases hr with ⟨h1, h2 | ⟨g, cap, cur, h3, h4, h5, h6⟩⟩
  · exact ⟨h1, .inl h2⟩
  · refine ⟨h1, .inr ⟨g, cap, cur, h3, h4, ?_, h6⟩⟩
    rw [h.block g (Array.getElem?_eq_some_iff.1 h5).1 (ha g (by rw [h3]; rfl))]
    exact h5
theorem TS.rdV {F : List Nat} {w w' : World} (h : TS F w w') {A : Option Addr} {vs : List Value} (hr : RdV w A vs) (ha : ∀ ad, A = some ad → ad.block ∉ F) : RdV w' A vs :=
  RdV.move hr fun a v e hc => h.cell hc (by
    cases A with
    | none => cases e
    | some ad => simp at e; have := ha ad rfl; rw [← e]; exact this)
end Go.Proofs.Ytihljjfnjclefaa
/- A region whose order is open, walked in one order of the prover's choice: what only reads is taken as soon as it may come up, what makes memory or calls comes up alone. No program in sight.
   E w w': what one step of the region may do to the world (a preorder: 'nothing that was there has turned'). -/
set_option linter.unusedVariables false
set_option linter.unusedSimpArgs false
namespace Go.Proofs.Ytihljjfnjclefaa

section
variable {P : Program} {ops : Array Oper} {Q : Exit → Act → World → Prop} {md : Region.Mode} {E : World → World → Prop}

/-- Whatever order is picked, and each step does to the world what E allows. -/
def anyE (P : Program) (md : Region.Mode) (ops : Array Oper) (Q : Exit → Act → World → Prop) (E : World → World → Prop) : Nat → Array Bool → Act → World → Prop
  | 0, listed, a, w => Region.ready md ops listed = [] ∧ Q .normal a w
  | fuel + 1, listed, a, w =>
    (Region.ready md ops listed = [] → Q .normal a w) ∧
    ∀ i ∈ Region.ready md ops listed, wpOp P ops Q i (fun a' w' => E w w' ∧ anyE P md ops Q E fuel (listed.setIfInBounds i true) a' w') a w
theorem wpAny_of_anyE : ∀ (fuel : Nat) (listed : Array Bool) (a : Act) (w : World), anyE P md ops Q E fuel listed a w → wpAny P md ops Q fuel listed a w
  | 0, _, _, _, h => h
  | fuel + 1, _, _, _, h => ⟨h.1, fun i hi => wpOp_mono (fun a' w' h' => wpAny_of_anyE fuel _ a' w' h'.2) (h.2 i hi)⟩

theorem yieldsE_mono {S S' : World → Prop} {o : Oper} {v : Value} {a : Act} (h : YieldsIf P ops S o v a) (hs : ∀ w, S' w → S w) : YieldsIf P ops S' o v a :=
  h.imp (fun ⟨h1, h2⟩ => ⟨h1, fun w hw => h2 w (hs w hw)⟩) id

/-- An operation that yields its value in every world that may come from the one at hand may be taken first. -/
theorem anyE_first {i : Nat} {oi : Oper} {v : Value} (hrf : ∀ w, E w w) (htr : ∀ x y z, E x y → E y z → E x z) (hi : ops[i]? = some oi) (hsel : ∀ (j : Nat) (o : Oper) cs b, ops[j]? = some o → o.op ≠ .select cs b)
    (hQ : ∀ c a w, Q (.panic c) (a.put oi.dst v) w → Q (.panic c) a w) :
    ∀ (fuel : Nat) (listed : Array Bool) (a : Act) (w : World),
      (∀ j oj, ops[j]? = some oj → j ≠ i → listed.getD j true = false → (∀ e ∈ oj.after, Region.binds md e = true → e.on ≠ i) → oi.apart ops oj = true) →
      i ∈ Region.ready md ops listed → YieldsIf P ops (E w) oi v a →
      anyE P md ops Q E fuel (listed.setIfInBounds i true) (a.put oi.dst v) w → anyE P md ops Q E (fuel + 1) listed a w := by
  intro fuel
  induction fuel with
  | zero =>
    intro listed a w _ hr hy H
    refine ⟨fun h => (by rw [h] at hr; cases hr), fun j hj => ?_⟩
    by_cases hji : j = i
    · subst hji; exact hy.wpOp hi (hrf w) ⟨hrf w, H⟩
    · have := ready_mono hj hji
      rw [H.1] at this
      cases this
  | succ fuel ih =>
    intro listed a w hfree hr hy H
    refine ⟨fun h => (by rw [h] at hr; cases hr), fun j hj => ?_⟩
    by_cases hji : j = i
    · subst hji; exact hy.wpOp hi (hrf w) ⟨hrf w, H⟩
    · have h1 := H.2 j (ready_mono hj hji)
      obtain ⟨hjun, oj, hoj, hall⟩ := mem_ready.1 hj
      have hnot : ∀ e ∈ oj.after, Region.binds md e = true → e.on ≠ i := fun e he hb heq => by
        have h1 := hall e he hb
        have h0 := (mem_ready.1 hr).1
        rw [heq] at h1
        rcases Nat.lt_or_ge i listed.size with h' | h'
        · simp [h'] at h0 h1; rw [h0] at h1; cases h1
        · simp [Array.getElem?_eq_none h'] at h1
      have h2 := wpOp_putIf hoj (hfree j oj hoj hji hjun hnot) (fun cs b => hsel i oi cs b hi) (fun cs b => hsel j oj cs b hoj) hQ hy h1
      have hfree' : ∀ k ok, ops[k]? = some ok → k ≠ i → (listed.setIfInBounds j true).getD k true = false →
          (∀ e ∈ ok.after, Region.binds md e = true → e.on ≠ i) → oi.apart ops ok = true := fun k ok hk hki hun hno => by
        refine hfree k ok hk hki ?_ hno
        by_cases hjk : j = k
        · subst hjk; exact hjun
        · rw [getD_set_ne true hjk] at hun; exact hun
      refine wpOp_mono (fun a' w' h3 => ⟨h3.2.1, ih (listed.setIfInBounds j true) a' w' hfree' (ready_mono hr (Ne.symm hji)) (yieldsE_mono h3.1 fun W hW => htr _ _ _ h3.2.1 hW) ?_⟩) h2
      rw [Array.setIfInBounds_comm _ _ hji]
      exact h3.2.2

/-- Is this list an order in which the region may be walked? (number, taken first) -/
def okS (md : Region.Mode) (ops : Array Oper) : List (Nat × Bool) → Array Bool → Bool
  | [], listed => Region.ready md ops listed == []
  | (i, b) :: σ, listed => (if b then (Region.ready md ops listed).contains i && Region.free md ops listed i else Region.ready md ops listed == [i]) && okS md ops σ (listed.setIfInBounds i true)

def wpSch (P : Program) (ops : Array Oper) (Q : Exit → Act → World → Prop) (E : World → World → Prop) : List (Nat × Bool) → Act → World → Prop
  | [], a, w => Q .normal a w
  | (i, b) :: σ, a, w => if b then ∃ o v, ops[i]? = some o ∧ YieldsIf P ops (E w) o v a ∧ wpSch P ops Q E σ (a.put o.dst v) w
    else wpOp P ops Q i (fun a' w' => E w w' ∧ wpSch P ops Q E σ a' w') a w

theorem anyE_of_sch (hrf : ∀ w, E w w) (htr : ∀ x y z, E x y → E y z → E x z) (hs : Region.noSelect ops = true) (hQ : ∀ c a d v w, Q (.panic c) (Act.put a d v) w → Q (.panic c) a w) :
    ∀ (σ : List (Nat × Bool)) (listed : Array Bool) (a : Act) (w : World), okS md ops σ listed = true → wpSch P ops Q E σ a w → anyE P md ops Q E σ.length listed a w := by
  intro σ
  induction σ with
  | nil => intro listed a w hok h; exact ⟨by simpa [okS] using hok, h⟩
  | cons x σ ih =>
    obtain ⟨i, b⟩ := x
    intro listed a w hok h
    simp only [okS, Bool.and_eq_true] at hok
    obtain ⟨hok1, hok2⟩ := hok
    cases b with
    | true =>
      simp only [if_true, Bool.and_eq_true] at hok1
      simp only [wpSch, if_true] at h
      obtain ⟨o, v, hi, hy, h⟩ := h
      exact anyE_first hrf htr hi (Region.noSelect_spec hs) (fun c a w => hQ c a _ _ w) σ.length listed a w (Region.free_spec hi hok1.2) (by simpa using hok1.1) hy (ih _ _ _ hok2 h)
    | false =>
      have hr : Region.ready md ops listed = [i] := by simpa using hok1
      simp only [wpSch, Bool.false_eq_true, if_false] at h
      refine ⟨fun h0 => (by rw [h0] at hr; cases hr), fun j hj => ?_⟩
      rw [hr, List.mem_singleton] at hj
      subst hj
      exact wpOp_mono (fun a' w' h' => ⟨h'.1, ih _ _ _ hok2 h'.2⟩) h

/-- THE BEGINNING: the region, by the order σ. -/
theorem region_sch {id : Nat} {a : Act} {w : World} (σ : List (Nat × Bool)) (hm : P.follows .mixedOrders = true) (hrf : ∀ w, E w w) (htr : ∀ x y z, E x y → E y z → E x z)
    (hQ : ∀ c a d v w, Q (.panic c) (Act.put a d v) w → Q (.panic c) a w) (hok : (Region.noSelect ops && σ.length == ops.size && okS .any ops σ (Array.replicate ops.size false)) = true)
    (h : ∀ ops', ops' = ops → wpSch P ops' Q E σ a w.drew) : (Code.region id ops true).wp P Q a w := by
  replace h := h ops rfl
  simp only [Bool.and_eq_true, beq_iff_eq] at hok
  obtain ⟨⟨h1, h2⟩, h3⟩ := hok
  refine wp_region_any hm (wpAny_of_anyE (E := E) _ _ _ _ ?_)
  rw [← h2] at h3 ⊢
  exact anyE_of_sch hrf htr h1 hQ σ _ _ _ h3 h

/-! ### the steps (the region's operations stand behind a name, so that nothing reads them anew at each step: 'ops' = ..') -/
theorem at_of {ops ops' : Array Oper} (h : ops' = ops) {i : Nat} {o : Oper} (hi : ops[i]? = some o) : ops'[i]? = some o := h ▸ hi
theorem sch_take {i : Nat} {σ : List (Nat × Bool)} {o : Oper} {v : Value} {a a' : Act} {w : World} (hi : ops[i]? = some o) (hw : Region.wanted o (yielded ops a.tmps) = true)
    (hy : ∀ W, E w W → (execOp a.eval o).run P W = .ok (.value v) W) (ha : a.put o.dst v = a') (h : wpSch P ops Q E σ a' w) : wpSch P ops Q E ((i, true) :: σ) a w := by
  simp only [wpSch, if_true]
  exact ⟨o, v, hi, .inl ⟨hw, hy⟩, ha ▸ h⟩
theorem sch_skip {i : Nat} {b : Bool} {σ : List (Nat × Bool)} {o : Oper} {a a' : Act} {w : World} (hrf : ∀ w, E w w) (hi : ops[i]? = some o) (hw : Region.wanted o (yielded ops a.tmps) = false)
    (ha : a.put o.dst undef = a') (h : wpSch P ops Q E σ a' w) : wpSch P ops Q E ((i, b) :: σ) a w := by
  subst ha
  cases b with
  | true => simp only [wpSch, if_true]; exact ⟨o, undef, hi, .inr ⟨hw, rfl⟩, h⟩
  | false =>
    simp only [wpSch, Bool.false_eq_true, if_false]
    unfold wpOp
    simp only [hi, hw, Bool.false_eq_true, if_false]
    exact ⟨hrf w, h⟩
theorem sch_eff {i : Nat} {σ : List (Nat × Bool)} {o : Oper} {a : Act} {w : World} (hi : ops[i]? = some o) (hw : Region.wanted o (yielded ops a.tmps) = true)
    (h : ∀ K : Act → World → Prop, (∀ a' w', E w w' → wpSch P ops Q E σ a' w' → K a' w') → o.wp P a w K Q) : wpSch P ops Q E ((i, false) :: σ) a w := by
  simp only [wpSch, Bool.false_eq_true, if_false]
  unfold wpOp
  simp only [hi, hw, if_true]
  exact .inl (h _ fun a' w' h1 h2 => ⟨h1, h2⟩)
/-- A step that makes memory, by its run equation. -/
theorem sch_run {i : Nat} {σ : List (Nat × Bool)} {o : Oper} {v : Value} {a a' : Act} {w w' : World} (hi : ops[i]? = some o) (hw : Region.wanted o (yielded ops a.tmps) = true)
    (hr : (execOp a.eval o).run P w = .ok (.value v) w') (hE : E w w') (ha : a.put o.dst v = a') (h : wpSch P ops Q E σ a' w') : wpSch P ops Q E ((i, false) :: σ) a w :=
  sch_eff hi hw fun K hK => by
    unfold Oper.wp
    rw [hr]
    exact hK _ _ hE (ha ▸ h)
/-- A call of a Go function. -/
theorem sch_call {i : Nat} {σ : List (Nat × Bool)} {o : Oper} {a : Act} {w : World} {f : FuncId} {args : Array Value} (hi : ops[i]? = some o) (hw : Region.wanted o (yielded ops a.tmps) = true)
    (hr : (execOp a.eval o).run P w = .ok (.enter f args) w) (hc : Calls P f args w fun e w' => ∃ v, e = .returned v ∧ E w w' ∧ ∀ a', a.put o.dst v = a' → wpSch P ops Q E σ a' w') : wpSch P ops Q E ((i, false) :: σ) a w :=
  sch_eff hi hw fun K hK => by
    unfold Oper.wp
    rw [hr]
    refine Calls.mono hc fun e w' ⟨v, he, hE, h⟩ => ?_
    subst he
    exact hK _ _ hE (h _ rfl)
/-- A whole array out of its block. -/
theorem sch_loadA {i : Nat} {σ : List (Nat × Bool)} {o : Oper} {a a' : Act} {w : World} (hi : ops[i]? = some o) (hw : Region.wanted o (yielded ops a.tmps) = true) (ty : TypeId) (x : Operand) (ho : o.op = .load ty x)
    (g : Nat) (hx : a.eval x = .pointer (some ⟨g, 0, none⟩)) (t : TypeId) (cs : Array Value) (fr : Nat × Nat) (d : TypeDesc) (hg : ∀ W, E w W → W.heap[g]? = some (.cells cs t fr))
    (hu : P.underlying ty = some d) (hd : (match d with | .struct _ | .array _ _ => true | _ => false) = true) (hs : (P.info? ty).map (·.size) = some cs.size)
    (ha : a.put o.dst (.agg cs) = a') (h : wpSch P ops Q E σ a' w) : wpSch P ops Q E ((i, true) :: σ) a w :=
  sch_take hi hw (fun W hW => by
    unfold execOp
    simp only [ho, hx, Instr.loadAt, Instr.sureAddr, Sem.run_bind, Sem.run_pure, Result.andThen_ok, run_loadVar_row W g t ty cs fr d (hg W hW) hu hd hs]) ha h
/-- 'append(v, x...)' onto a row of the call's own. -/
theorem sch_append {i : Nat} {σ : List (Nat × Bool)} {o : Oper} {a : Act} {w : World} (hi : ops[i]? = some o) (hw : Region.wanted o (yielded ops a.tmps) = true) (s x : Operand) (t e : TypeId) (bytes : Nat) (z : Value)
    (ht : P.underlying t = some (.slice e)) (hinfo : (P.info? e).map (fun i => (i.zero, i.size, i.bytes)) = some (some z, 1, bytes)) (hzs : z.cells.size = 1)
    (ho : o.op = .call { callee := .builtin .append, args := #[s, x], argTypes := #[t, t] })
    (base : Nat) (v : Value) (xs : List Value) (hown : OwnV e w base v xs) (hs : a.eval s = v) (A : Option Addr) (n c : Nat) (ys : List Value) (hn : n = ys.length) (hx : a.eval x = .slice A n c) (hr : RdV w A ys) (h1 : ∀ u ∈ ys, u.oneCell' = true)
    (h63 : xs.length + ys.length ≤ maxLen) (hbytes : (xs.length + ys.length) * bytes ≤ 140737488355328) (hbase : base ≤ w.heap.size)
    (h : ∀ v' w', OwnV e w' base v' (xs ++ ys) → w.grownBy w' v.ownBlock → (v'.ownBlock = v.ownBlock ∨ v'.ownBlock = some w.heap.size) → E w w' ∧ ∀ a', a.put o.dst v' = a' → wpSch P ops Q E σ a' w') : wpSch P ops Q E ((i, false) :: σ) a w := by
  subst hn
  obtain ⟨v', w', hrun, h2, h3, h4⟩ := run_append_any (P := P) w base t o.type e bytes z ht hinfo hzs v xs hown A c ys hr h1 h63 hbytes hbase
  obtain ⟨hE, hk⟩ := h v' w' h2 h3 h4
  refine sch_run hi hw ?_ hE rfl (hk _ rfl)
  unfold execOp
  simp only [ho, resolve, invoke, builtin, Sem.run_bind, Sem.run_pure, Result.andThen_ok, List.map_toArray, List.map_cons, List.map_nil, hs, hx, hrun]
theorem sch_done {a : Act} {w : World} (h : Q .normal a w) : wpSch P ops Q E [] a w := h
end
theorem sch_append_bytes {ops : Array Oper} {Q : Exit → Act → World → Prop} {E : World → World → Prop} {i : Nat} {σ : List (Nat × Bool)} {o : Oper} {a : Act} {w : World} (hi : ops[i]? = some o) (hw : Region.wanted o (yielded ops a.tmps) = true) (s x : Operand)
    (ho : o.op = .call { callee := .builtin .append, args := #[s, x], argTypes := #[22, 22] })
    (base : Nat) (v : Value) (xs : List Byte) (hown : Own w base v xs) (hs : a.eval s = v) (A : Option Addr) (n c : Nat) (ys : List Byte) (hn : n = ys.length) (hx : a.eval x = .slice A n c) (hr : Rd w A ys)
    (hlen : xs.length + ys.length ≤ 140737488355328) (hbase : base ≤ w.heap.size)
    (h : ∀ v' w', Own w' base v' (xs ++ ys) → w.grownBy w' v.ownBlock → (v'.ownBlock = v.ownBlock ∨ v'.ownBlock = some w.heap.size) → E w w' ∧ ∀ a', a.put o.dst v' = a' → wpSch Try.prog ops Q E σ a' w') : wpSch Try.prog ops Q E ((i, false) :: σ) a w :=
  sch_append hi hw s x 22 5 1 (.int .u8 0) Try.underlying22 info_u8 rfl ho base v (vbs xs) hown hs A n c (vbs ys) (by rw [vbs_length]; exact hn) hx hr (vbs_oneCell ys)
    (by rw [vbs_length, vbs_length, maxLen_eq]; omega) (by rw [vbs_length, vbs_length]; omega) hbase (fun v' w' h2 h3 h4 => h v' w' (by unfold Own; rw [vbs_append]; exact h2) h3 h4)

theorem fb_trans (x y z : World) (h : FB x y) (k : FB y z) : FB x z := h.call k

end Go.Proofs.Ytihljjfnjclefaa
/- A region whose order is open and whose last operation, behind all others, is a store into what the others read. -/
set_option linter.unusedVariables false
set_option linter.unusedSimpArgs false
namespace Go.Proofs.Ytihljjfnjclefaa

section
variable {P : Program} {ops : Array Oper} {Q : Exit → Act → World → Prop} {md : Region.Mode} {E : World → World → Prop} {s : Nat}

/-- Behind the others the operation s. -/
def withLast (P : Program) (ops : Array Oper) (Q : Exit → Act → World → Prop) (s : Nat) : Exit → Act → World → Prop
  | .normal, a, w => wpOp P ops Q s (fun a' w' => Q .normal a' w') a w
  | e, a, w => Q e a w

theorem Oper.wp_withLast {o : Oper} {a : Act} {w : World} {K : Act → World → Prop} (h : o.wp P a w K (withLast P ops Q s)) : o.wp P a w K Q := by
  unfold Oper.wp at *
  generalize (execOp a.eval o).run P w = r at *
  cases r with
  | ok n w' => cases n <;> exact h
  | halt x w' => cases x <;> exact h
theorem wpOp_withLast {i : Nat} {a : Act} {w : World} {K : Act → World → Prop} (h : wpOp P ops (withLast P ops Q s) i K a w) : wpOp P ops Q i K a w := by
  unfold wpOp at *
  split
  · simpa [*] using h
  · rename_i o ho
    simp only [ho] at h
    split
    · rename_i hw
      rw [if_pos hw] at h
      exact h.imp Oper.wp_withLast id
    · rename_i hw
      rw [if_neg hw] at h
      exact h

def anyS (P : Program) (md : Region.Mode) (ops : Array Oper) (Q : Exit → Act → World → Prop) (E : World → World → Prop) (s : Nat) : Nat → Array Bool → Act → World → Prop
  | 0, listed, a, w => Region.ready md ops listed = [] ∧ Q .normal a w
  | fuel + 1, listed, a, w =>
    (Region.ready md ops listed = [] → Q .normal a w) ∧
    ∀ i ∈ Region.ready md ops listed, wpOp P ops Q i (fun a' w' => (i ≠ s → E w w') ∧ anyS P md ops Q E s fuel (listed.setIfInBounds i true) a' w') a w
theorem wpAny_of_anyS : ∀ (fuel : Nat) (listed : Array Bool) (a : Act) (w : World), anyS P md ops Q E s fuel listed a w → wpAny P md ops Q fuel listed a w
  | 0, _, _, _, h => h
  | fuel + 1, _, _, _, h => ⟨h.1, fun i hi => wpOp_mono (fun a' w' h' => wpAny_of_anyS fuel _ a' w' h'.2) (h.2 i hi)⟩

/-- Does s stand behind i? -/
def behind (md : Region.Mode) (ops : Array Oper) (s i : Nat) : Bool := match ops[s]? with | some o => o.after.toList.any fun e => Region.binds md e && e.on == i | none => false
theorem behind_spec {i : Nat} (h : behind md ops s i = true) {o : Oper} (ho : ops[s]? = some o) : ∃ e ∈ o.after, Region.binds md e = true ∧ e.on = i := by
  unfold behind at h
  rw [ho] at h
  simp only [List.any_eq_true, Bool.and_eq_true, beq_iff_eq] at h
  obtain ⟨e, he, h1, h2⟩ := h
  exact ⟨e, by simpa using he, h1, h2⟩

theorem anyS_first {i : Nat} {oi : Oper} {v : Value} (hrf : ∀ w, E w w) (htr : ∀ x y z, E x y → E y z → E x z) (hi : ops[i]? = some oi) (hsel : ∀ (j : Nat) (o : Oper) cs b, ops[j]? = some o → o.op ≠ .select cs b)
    (hQ : ∀ c a w, Q (.panic c) (a.put oi.dst v) w → Q (.panic c) a w) (hbe : behind md ops s i = true) :
    ∀ (fuel : Nat) (listed : Array Bool) (a : Act) (w : World),
      (∀ j oj, ops[j]? = some oj → j ≠ i → listed.getD j true = false → (∀ e ∈ oj.after, Region.binds md e = true → e.on ≠ i) → oi.apart ops oj = true) →
      i ∈ Region.ready md ops listed → YieldsIf P ops (E w) oi v a →
      anyS P md ops Q E s fuel (listed.setIfInBounds i true) (a.put oi.dst v) w → anyS P md ops Q E s (fuel + 1) listed a w := by
  intro fuel
  induction fuel with
  | zero =>
    intro listed a w _ hr hy H
    refine ⟨fun h => (by rw [h] at hr; cases hr), fun j hj => ?_⟩
    by_cases hji : j = i
    · subst hji; exact hy.wpOp hi (hrf w) ⟨fun _ => hrf w, H⟩
    · have := ready_mono hj hji
      rw [H.1] at this
      cases this
  | succ fuel ih =>
    intro listed a w hfree hr hy H
    refine ⟨fun h => (by rw [h] at hr; cases hr), fun j hj => ?_⟩
    by_cases hji : j = i
    · subst hji; exact hy.wpOp hi (hrf w) ⟨fun _ => hrf w, H⟩
    · have h1 := H.2 j (ready_mono hj hji)
      obtain ⟨hjun, oj, hoj, hall⟩ := mem_ready.1 hj
      have hnot : ∀ e ∈ oj.after, Region.binds md e = true → e.on ≠ i := fun e he hb heq => by
        have h1 := hall e he hb
        have h0 := (mem_ready.1 hr).1
        rw [heq] at h1
        rcases Nat.lt_or_ge i listed.size with h' | h'
        · simp [h'] at h0 h1; rw [h0] at h1; cases h1
        · simp [Array.getElem?_eq_none h'] at h1
      have hjs : j ≠ s := fun e => by
        subst e
        obtain ⟨x, hx1, hx2, hx3⟩ := behind_spec hbe hoj
        exact hnot x hx1 hx2 hx3
      have h2 := wpOp_putIf hoj (hfree j oj hoj hji hjun hnot) (fun cs b => hsel i oi cs b hi) (fun cs b => hsel j oj cs b hoj) hQ hy h1
      have hfree' : ∀ k ok, ops[k]? = some ok → k ≠ i → (listed.setIfInBounds j true).getD k true = false →
          (∀ e ∈ ok.after, Region.binds md e = true → e.on ≠ i) → oi.apart ops ok = true := fun k ok hk hki hun hno => by
        refine hfree k ok hk hki ?_ hno
        by_cases hjk : j = k
        · subst hjk; exact hjun
        · rw [getD_set_ne true hjk] at hun; exact hun
      refine wpOp_mono (fun a' w' h3 => ⟨fun _ => h3.2.1 hjs, ih (listed.setIfInBounds j true) a' w' hfree' (ready_mono hr (Ne.symm hji)) (yieldsE_mono h3.1 fun W hW => htr _ _ _ (h3.2.1 hjs) hW) ?_⟩) h2
      rw [Array.setIfInBounds_comm _ _ hji]
      exact h3.2.2

def okL (md : Region.Mode) (ops : Array Oper) (s : Nat) : List (Nat × Bool) → Array Bool → Bool
  | [], listed => Region.ready md ops listed == [s] && Region.ready md ops (listed.setIfInBounds s true) == []
  | (i, b) :: σ, listed => (if b then (Region.ready md ops listed).contains i && Region.free md ops listed i && behind md ops s i else Region.ready md ops listed == [i] && i != s) && okL md ops s σ (listed.setIfInBounds i true)

theorem anyS_of_sch (hrf : ∀ w, E w w) (htr : ∀ x y z, E x y → E y z → E x z) (hs : Region.noSelect ops = true) (hQ : ∀ c a d v w, Q (.panic c) (Act.put a d v) w → Q (.panic c) a w) :
    ∀ (σ : List (Nat × Bool)) (listed : Array Bool) (a : Act) (w : World), okL md ops s σ listed = true → wpSch P ops (withLast P ops Q s) E σ a w → anyS P md ops Q E s (σ.length + 1) listed a w := by
  intro σ
  induction σ with
  | nil =>
    intro listed a w hok h
    simp only [okL, Bool.and_eq_true, beq_iff_eq] at hok
    refine ⟨fun h0 => (by rw [h0] at hok; cases hok.1), fun j hj => ?_⟩
    rw [hok.1, List.mem_singleton] at hj
    subst hj
    exact wpOp_mono (fun a' w' h' => ⟨fun hne => absurd rfl hne, hok.2, h'⟩) h
  | cons x σ ih =>
    obtain ⟨i, b⟩ := x
    intro listed a w hok h
    simp only [okL, Bool.and_eq_true] at hok
    obtain ⟨hok1, hok2⟩ := hok
    cases b with
    | true =>
      simp only [if_true, Bool.and_eq_true] at hok1
      simp only [wpSch, if_true] at h
      obtain ⟨o, v, hi, hy, h⟩ := h
      exact anyS_first hrf htr hi (Region.noSelect_spec hs) (fun c a w => hQ c a _ _ w) hok1.2 (σ.length + 1) listed a w (Region.free_spec hi hok1.1.2) (by simpa using hok1.1.1) hy (ih _ _ _ hok2 h)
    | false =>
      simp only [Bool.false_eq_true, if_false, Bool.and_eq_true, beq_iff_eq] at hok1
      have hr : Region.ready md ops listed = [i] := hok1.1
      simp only [wpSch, Bool.false_eq_true, if_false] at h
      refine ⟨fun h0 => (by rw [h0] at hr; cases hr), fun j hj => ?_⟩
      rw [hr, List.mem_singleton] at hj
      subst hj
      exact wpOp_mono (fun a' w' h' => ⟨fun _ => h'.1, ih _ _ _ hok2 h'.2⟩) (wpOp_withLast h)

/-- THE BEGINNING: the region, by the order σ, and s last. -/
theorem region_schL {id : Nat} {a : Act} {w : World} (s : Nat) (σ : List (Nat × Bool)) (hm : P.follows .mixedOrders = true) (hrf : ∀ w, E w w) (htr : ∀ x y z, E x y → E y z → E x z)
    (hQ : ∀ c a d v w, Q (.panic c) (Act.put a d v) w → Q (.panic c) a w) (hok : (Region.noSelect ops && σ.length + 1 == ops.size && okL .any ops s σ (Array.replicate ops.size false)) = true)
    (h : ∀ ops', ops' = ops → wpSch P ops' (withLast P ops' Q s) E σ a w.drew) : (Code.region id ops true).wp P Q a w := by
  replace h := h ops rfl
  simp only [Bool.and_eq_true, beq_iff_eq] at hok
  obtain ⟨⟨h1, h2⟩, h3⟩ := hok
  refine wp_region_any hm (wpAny_of_anyS (E := E) (s := s) _ _ _ _ ?_)
  rw [← h2] at h3 ⊢
  exact anyS_of_sch hrf htr h1 hQ σ _ _ _ h3 h
/-- The last operation, where it is a store. -/
theorem schL_store {o : Oper} {a : Act} {w w' : World} (hi : ops[s]? = some o) (hw : Region.wanted o (yielded ops a.tmps) = true) (ty : TypeId) (x y : Operand) (ho : o.op = .store ty x y)
    (vx vy : Value) (hx : a.eval x = vx) (hy : a.eval y = vy) (hr : (Instr.storeAt ty vx vy).run P w = .ok () w') (h : Q .normal (a.put o.dst undef) w') : wpSch P ops (withLast P ops Q s) E [] a w := by
  show wpOp P ops Q s (fun a' w' => Q .normal a' w') a w
  unfold wpOp
  simp only [hi, hw, if_true]
  refine .inl ?_
  unfold Oper.wp execOp
  subst hx hy
  simp only [ho, Sem.run_bind, Sem.run_pure, Result.andThen_ok, hr]
  exact h
end
end Go.Proofs.Ytihljjfnjclefaa
