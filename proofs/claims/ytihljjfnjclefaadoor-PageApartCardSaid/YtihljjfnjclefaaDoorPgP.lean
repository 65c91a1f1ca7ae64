/- page, plain: the bytes of a page; reading them; a byte that is changed. -/
import Derived.Test.YtihljjfnjclefaaDoorCrcT
import Derived.Test.YtihljjfnjclefaaDoorOctP
import Derived.Test.YtihljjfnjclefaaDoorXhP
set_option linter.unusedVariables false
set_option linter.unusedSimpArgs false
namespace Go.Proofs.YtihljjfnjclefaaDoor

theorem pg_xword_bit (q : Nat) : ∀ (n : BitVec 64), 8 * q ≤ 64 → ∀ j, (xword (oword q n)).getLsbD j = (decide (j < 8 * q) && n.getLsbD j) := by
  induction q with
  | zero => intro n h j; simp [oword, xword]
  | succ q ih =>
    intro n h j
    rw [oword, xword]
    simp only [BitVec.getLsbD_or, BitVec.getLsbD_setWidth, BitVec.getLsbD_shiftLeft, ih (n >>> 8) (by omega), BitVec.getLsbD_ushiftRight]
    by_cases h8 : j < 8
    · simp [h8, show j < 64 by omega, show j < 8 * (q + 1) by omega]
    · rcases Nat.lt_or_ge j 64 with h64 | h64
      · rw [show 8 + (j - 8) = j by omega]
        by_cases hq : j < 8 * (q + 1)
        · simp [h8, h64, hq, show j - 8 < 8 * q by omega]
        · simp [h8, h64, hq, show ¬ j - 8 < 8 * q by omega]
      · rw [BitVec.getLsbD_of_ge n j h64]
        simp [h8, show ¬ j < 64 by omega]
/-- A word that was written is read: modulo what its bytes hold. -/
theorem pg_xword (q : Nat) (n : BitVec 64) (h : 8 * q ≤ 64) : (xword (oword q n)).toNat = n.toNat % 2 ^ (8 * q) := by
  have e : xword (oword q n) = (n.setWidth (8 * q)).setWidth 64 := by
    apply BitVec.eq_of_getLsbD_eq
    intro j hj
    rw [pg_xword_bit q n h, BitVec.getLsbD_setWidth, BitVec.getLsbD_setWidth]
    simp [hj]
  rw [e, BitVec.toNat_setWidth, BitVec.toNat_setWidth]
  refine Nat.mod_eq_of_lt (Nat.lt_of_lt_of_le (Nat.mod_lt _ (Nat.two_pow_pos _)) (Nat.pow_le_pow_right (by omega) h))
def z4 : List Byte := [0#8, 0#8, 0#8, 0#8]
def pgHd (k : Byte) (n : BitVec 32) : List Byte := [0x54#8, 0x4d#8, 1#8, k] ++ oword 4 (n.setWidth 64) ++ z4
def pgPad (x : List Byte) : List Byte := x ++ List.replicate (4080 - x.length) 0#8
def pgSum (k : Byte) (n : BitVec 32) (x : List Byte) : BitVec 32 := crcSum (pgHd k n ++ (z4 ++ pgPad x))
def pgBytes (k : Byte) (n : BitVec 32) (x : List Byte) : List Byte := pgHd k n ++ (oword 4 ((pgSum k n x).setWidth 64) ++ pgPad x)
def pgOk (K : Int) (x : List Byte) : Bool := decide (1 ≤ K) && decide (K ≤ 7) && decide (x.length ≤ 4080)
theorem pgOk_iff {K : Int} {x : List Byte} : pgOk K x = true ↔ 1 ≤ K ∧ K ≤ 7 ∧ x.length ≤ 4080 := by
  unfold pgOk
  simp only [Bool.and_eq_true, decide_eq_true_eq]
  exact ⟨fun h => ⟨h.1.1, h.1.2, h.2⟩, fun h => ⟨⟨h.1, h.2.1⟩, h.2.2⟩⟩
def pgB (K : Int) (n : BitVec 32) (x : List Byte) : List Byte × Int := if pgOk K x then (pgBytes (BitVec.ofInt 8 K) n x, 0) else ([], 2)
def pgKd (b : List Byte) : Int := nb (b.getD 3 0#8)
def pgNm (b : List Byte) : BitVec 32 := (xword ((b.drop 4).take 4)).setWidth 32
def pgR (b : List Byte) : (Int × BitVec 32 × List Byte) × Int :=
  if b.length = 4096 ∧ pgB (pgKd b) (pgNm b) (b.drop 16) = (b, 0) then ((pgKd b, pgNm b, b.drop 16), 0) else ((0, 0#32, []), 4)

theorem pgHd_len (k : Byte) (n : BitVec 32) : (pgHd k n).length = 12 := by simp [pgHd, oword_len, z4]
theorem pgPad_len {x : List Byte} (h : x.length ≤ 4080) : (pgPad x).length = 4080 := by simp [pgPad]; omega
theorem pgPad_pad {x : List Byte} (h : x.length = 4080) : pgPad x = x := by simp [pgPad, h]
theorem pgBytes_len (k : Byte) (n : BitVec 32) {x : List Byte} (h : x.length ≤ 4080) : (pgBytes k n x).length = 4096 := by
  simp [pgBytes, pgHd_len, oword_len, pgPad_len h]
theorem pgBytes_pad (k : Byte) (n : BitVec 32) {x : List Byte} (h : x.length ≤ 4080) : pgBytes k n (pgPad x) = pgBytes k n x := by
  have e := pgPad_pad (pgPad_len h)
  unfold pgBytes pgSum
  rw [e]
theorem pgBytes_take (k : Byte) (n : BitVec 32) (x : List Byte) : (pgBytes k n x).take 12 = pgHd k n := by
  unfold pgBytes; rw [List.take_append_of_le_length (by rw [pgHd_len]; omega), List.take_of_length_le (by rw [pgHd_len]; omega)]
theorem pgBytes_drop12 (k : Byte) (n : BitVec 32) (x : List Byte) : (pgBytes k n x).drop 12 = oword 4 ((pgSum k n x).setWidth 64) ++ pgPad x := by
  unfold pgBytes
  rw [List.drop_append_of_le_length (by rw [pgHd_len]; omega), List.drop_of_length_le (by rw [pgHd_len]; omega), List.nil_append]
theorem pgBytes_drop (k : Byte) (n : BitVec 32) (x : List Byte) : (pgBytes k n x).drop 16 = pgPad x := by
  rw [show 16 = 12 + 4 from rfl, ← List.drop_drop, pgBytes_drop12]
  rw [List.drop_append_of_le_length (by rw [oword_len]; omega), List.drop_of_length_le (by rw [oword_len]; omega), List.nil_append]
theorem pgKd_bytes (k : Byte) (n : BitVec 32) (x : List Byte) : pgKd (pgBytes k n x) = nb k := rfl
theorem pgNm_bytes (k : Byte) (n : BitVec 32) (x : List Byte) : pgNm (pgBytes k n x) = n := by
  have e : ((pgBytes k n x).drop 4).take 4 = oword 4 (n.setWidth 64) := by
    unfold pgBytes pgHd
    rw [List.append_assoc, List.append_assoc, List.drop_append_of_le_length (by simp), List.drop_of_length_le (by simp), List.nil_append, List.take_append_of_le_length (by rw [oword_len]; omega), List.take_of_length_le (by rw [oword_len]; omega)]
  unfold pgNm
  rw [e]
  apply BitVec.eq_of_toNat_eq
  rw [BitVec.toNat_setWidth, pg_xword 4 _ (by omega), BitVec.toNat_setWidth]
  have := n.isLt
  omega
theorem nb_kind {K : Int} (h : 1 ≤ K ∧ K ≤ 7) : nb (BitVec.ofInt 8 K) = K := nb_ofInt _ (by omega) (by omega)
theorem pgR_bytes {K : Int} {n : BitVec 32} {x : List Byte} (h : pgOk K x = true) : pgR (pgBytes (BitVec.ofInt 8 K) n x) = ((K, n, pgPad x), 0) := by
  have o := pgOk_iff.1 h
  have ek : pgKd (pgBytes (BitVec.ofInt 8 K) n x) = K := by rw [pgKd_bytes, nb_kind ⟨o.1, o.2.1⟩]
  unfold pgR
  rw [ek, pgNm_bytes, pgBytes_drop, if_pos]
  refine ⟨pgBytes_len _ _ o.2.2, ?_⟩
  unfold pgB
  rw [if_pos (pgOk_iff.2 ⟨o.1, o.2.1, by rw [pgPad_len o.2.2]; omega⟩), pgBytes_pad _ _ o.2.2]
theorem pgR_ok {b : List Byte} {p : Int × BitVec 32 × List Byte} (h : pgR b = (p, 0)) : pgB p.1 p.2.1 p.2.2 = (b, 0) ∧ b.length = 4096 := by
  unfold pgR at h
  split at h
  · rename_i hc
    obtain rfl : p = _ := (congrArg Prod.fst h).symm
    exact ⟨hc.2, hc.1⟩
  · have := congrArg Prod.snd h; simp at this
/-- The sum stands where it should. -/
theorem pgB_sum {K : Int} {n : BitVec 32} {x b : List Byte} (h : pgB K n x = (b, 0)) : b.length = 4096 ∧ (b.drop 12).take 4 = oword 4 ((crcSum (b.take 12 ++ (z4 ++ b.drop 16))).setWidth 64) := by
  unfold pgB at h
  split at h
  · rename_i ho
    have o := pgOk_iff.1 ho
    obtain rfl : b = _ := (congrArg Prod.fst h).symm
    refine ⟨pgBytes_len _ _ o.2.2, ?_⟩
    rw [pgBytes_take, pgBytes_drop, pgBytes_drop12, List.take_append_of_le_length (by rw [oword_len]; omega), List.take_of_length_le (by rw [oword_len]; omega)]
    rfl
  · have := congrArg Prod.snd h; simp at this
theorem oword4_inj {x y : BitVec 32} (h : oword 4 (x.setWidth 64) = oword 4 (y.setWidth 64)) : x = y := by
  have e := congrArg (fun l => (xword l).toNat) h
  simp only [pg_xword 4 _ (show 8 * 4 ≤ 64 by omega), BitVec.toNat_setWidth] at e
  apply BitVec.eq_of_toNat_eq
  have := x.isLt; have := y.isLt
  omega
theorem xors_set (l : List Byte) (i : Nat) (d : Byte) (h : i < l.length) : xors (l.set i (l[i] ^^^ d)) l = List.replicate i 0#8 ++ [d] ++ List.replicate (l.length - i - 1) 0#8 := by
  apply List.ext_getElem
  · simp [xors]; omega
  · intro j h1 h2
    simp only [xors, List.getElem_zipWith, List.getElem_set]
    by_cases e : i = j
    · subst e
      rw [if_pos rfl, List.getElem_append_left (by simp), List.getElem_append_right (by simp)]
      simp only [List.length_replicate, Nat.sub_self, List.getElem_cons_zero]
      rw [BitVec.xor_comm, ← BitVec.xor_assoc, BitVec.xor_self, BitVec.zero_xor]
    · rw [if_neg e, BitVec.xor_self]
      by_cases hj : j < i
      · rw [List.getElem_append_left (by simp; omega), List.getElem_append_left (by simpa using hj)]; simp
      · rw [List.getElem_append_right (by simp; omega)]; simp
theorem sum_set (l : List Byte) (i : Nat) (d : Byte) (h : i < l.length) : crcSum (l.set i (l[i] ^^^ d)) = crcSum l ↔ d = 0#8 := by
  rw [crcSum_eq _ _ (by simp), xors_set l i d h, fold_change _ _ _ (by simp)]
  simp
/-- With one byte changed it is not read. -/
theorem pg_change {b : List Byte} {K K' : Int} {n n' : BitVec 32} {x x' : List Byte} (h : pgB K n x = (b, 0)) (i : Nat) (hi : i < b.length) (d : Byte) (h' : pgB K' n' x' = (b.set i (b[i] ^^^ d), 0)) : d = 0#8 := by
  obtain ⟨hl, hs⟩ := pgB_sum h
  obtain ⟨hl', hs'⟩ := pgB_sum h'
  by_cases h1 : 12 ≤ i ∧ i < 16
  · have e16 : (b.set i (b[i] ^^^ d)).drop 16 = b.drop 16 := List.drop_set_of_lt (by omega)
    rw [List.take_set_of_le (by omega), e16, ← hs] at hs'
    have e := congrArg (fun l => l[i - 12]?) hs'
    simp only [List.getElem?_take, List.getElem?_drop, show i - 12 < 4 by omega, if_true, show 12 + (i - 12) = i by omega] at e
    rw [List.getElem?_set, if_pos rfl, if_pos hi, List.getElem?_eq_getElem hi] at e
    have e2 := Option.some.inj e
    have e3 : b[i] ^^^ (b[i] ^^^ d) = b[i] ^^^ b[i] := by rw [e2]
    rwa [← BitVec.xor_assoc, BitVec.xor_self, BitVec.zero_xor] at e3
  · have hz : (b.set i (b[i] ^^^ d)).take 12 ++ (z4 ++ (b.set i (b[i] ^^^ d)).drop 16) = (b.take 12 ++ (z4 ++ b.drop 16)).set i ((b.take 12 ++ (z4 ++ b.drop 16))[i]'(by simp [z4]; omega) ^^^ d) ∧ ((b.set i (b[i] ^^^ d)).drop 12).take 4 = (b.drop 12).take 4 := by
      constructor
      · apply List.ext_getElem?
        intro j
        by_cases hj : j < 12
        · rw [List.getElem?_append_left (by simp; omega), List.getElem?_take, if_pos hj, List.getElem?_set, List.getElem?_set]
          by_cases e : i = j
          · subst e
            rw [if_pos rfl, if_pos rfl, if_pos hi, if_pos (by simp [z4]; omega), List.getElem_append_left (by simp; omega), List.getElem_take]
          · rw [if_neg e, if_neg e, List.getElem?_append_left (by simp; omega), List.getElem?_take, if_pos hj]
        · by_cases hj2 : j < 16
          · have e : ¬ i = j := by omega
            rw [List.getElem?_append_right (by simp; omega), List.getElem?_append_left (by simp [z4]; omega), List.getElem?_set, if_neg e, List.getElem?_append_right (by simp; omega), List.getElem?_append_left (by simp [z4]; omega)]
            simp [hl]
          · rw [List.getElem?_append_right (by simp; omega), List.getElem?_append_right (by simp [z4]; omega), List.getElem?_drop, List.getElem?_set, List.getElem?_set]
            have ej : 16 + (j - (List.take 12 (b.set i (b[i] ^^^ d))).length - z4.length) = j := by simp [z4]; omega
            rw [ej]
            by_cases e : i = j
            · subst e
              rw [if_pos rfl, if_pos rfl, if_pos hi, if_pos (by simp [z4]; omega), List.getElem_append_right (by simp; omega), List.getElem_append_right (by simp [z4]; omega), List.getElem_drop]
              congr 3
              simp [z4]; omega
            · rw [if_neg e, if_neg e, List.getElem?_append_right (by simp; omega), List.getElem?_append_right (by simp [z4]; omega), List.getElem?_drop]
              congr 1
              simp [z4]; omega
      · apply List.ext_getElem?
        intro j
        rw [List.getElem?_take, List.getElem?_take]
        by_cases hj : j < 4
        · rw [if_pos hj, if_pos hj, List.getElem?_drop, List.getElem?_drop, List.getElem?_set, if_neg (by omega)]
        · rw [if_neg hj, if_neg hj]
    rw [hz.2, hz.1, hs] at hs'
    exact (sum_set _ i d _).1 (oword4_inj hs').symm
/-! ### noughts at the end -/
def trimz (x : List Byte) : List Byte := (x.reverse.dropWhile (· == 0#8)).reverse
theorem trimz_nil : trimz [] = [] := rfl
theorem trimz_zero (l : List Byte) : trimz (l ++ [0#8]) = trimz l := by unfold trimz; rw [List.reverse_append]; rfl
theorem trimz_other (l : List Byte) {b : Byte} (h : b ≠ 0#8) : trimz (l ++ [b]) = l ++ [b] := by
  unfold trimz
  rw [List.reverse_append, List.reverse_singleton, List.singleton_append, List.dropWhile_cons, if_neg (by simpa using h), List.reverse_cons, List.reverse_reverse]
theorem trimz_zeros (l : List Byte) (m : Nat) : trimz (l ++ List.replicate m 0#8) = trimz l := by
  induction m with
  | zero => simp
  | succ m ih => rw [List.replicate_succ', ← List.append_assoc, trimz_zero, ih]
theorem trimz_pad (x : List Byte) : trimz (pgPad x) = trimz x := trimz_zeros x _
theorem trimz_len (x : List Byte) : (trimz x).length ≤ x.length := by
  unfold trimz
  rw [List.length_reverse]
  have := (List.dropWhile_suffix (l := x.reverse) (· == 0#8)).length_le
  rwa [List.length_reverse] at this
theorem trimz_pre (x : List Byte) : trimz x = x.take (trimz x).length := by
  have h := (List.dropWhile_suffix (l := x.reverse) (· == 0#8))
  have h2 : trimz x <+: x := by
    unfold trimz
    have := List.reverse_prefix.2 h
    rwa [List.reverse_reverse] at this
  exact List.prefix_iff_eq_take.1 h2
def pgSame (K : Int) (n : BitVec 32) (x : List Byte) (K' : Int) (n' : BitVec 32) (y : List Byte) : Bool := decide (K = K') && decide (n = n') && decide (trimz x = trimz y)
end Go.Proofs.YtihljjfnjclefaaDoor
