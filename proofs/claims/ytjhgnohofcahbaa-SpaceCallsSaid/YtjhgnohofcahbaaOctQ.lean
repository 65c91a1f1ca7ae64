/- What is written is read back, in plain Lean. No program in sight. -/
import Derived.Test.YtjhgnohofcahbaaRdrD
set_option linter.unusedVariables false
set_option linter.unusedSimpArgs false
namespace Go.Proofs.Ytjhgnohofcahbaa

theorem seven (n : BitVec 64) (i : Nat) (hi : 7 * i < 64) (acc : BitVec 64) :
    (acc ||| ((((n.setWidth 8 ||| 128#8) &&& 127#8).setWidth 64) <<< (7 * i))) ||| (n >>> 7) <<< (7 * (i + 1)) = acc ||| n <<< (7 * i) := by
  have h : ((n.setWidth 8 ||| 128#8) &&& 127#8).setWidth 64 ||| (n >>> 7) <<< 7 = n := by
    apply BitVec.eq_of_getLsbD_eq
    intro j hj
    have h127 : (127#8).getLsbD j = decide (j < 7) := by
      rcases Nat.lt_or_ge j 8 with h | h
      · have : ∀ j : Fin 8, (127#8).getLsbD j.val = decide (j.val < 7) := by decide
        exact this ⟨j, h⟩
      · rw [BitVec.getLsbD_of_ge _ _ h]; simp; omega
    have h128 : j < 7 → (128#8).getLsbD j = false := by
      intro h
      have : ∀ j : Fin 7, (128#8).getLsbD j.val = false := by decide
      exact this ⟨j, h⟩
    simp only [BitVec.getLsbD_or, BitVec.getLsbD_setWidth, BitVec.getLsbD_and, BitVec.getLsbD_shiftLeft, BitVec.getLsbD_ushiftRight, h127]
    by_cases hj7 : j < 7
    · have e8 : j < 8 := by omega
      simp [hj, hj7, e8]
      intro h
      rw [← BitVec.getLsbD_eq_getElem, h128 hj7] at h
      cases h
    · have : 7 + (j - 7) = j := by omega
      simp [hj, hj7, this]
  conv => rhs; rw [← h]
  rw [BitVec.or_assoc, BitVec.shiftLeft_or_distrib, show 7 * (i + 1) = 7 + 7 * i by omega, BitVec.shiftLeft_add]
theorem small7 (n : BitVec 64) (h : ¬ 128#64 ≤ n) : ((n.setWidth 8 &&& 127#8).setWidth 64) = n := by
  have hn : n.toNat < 128 := by have := h; rw [BitVec.le_def] at this; simpa using this
  apply BitVec.eq_of_toNat_eq
  rw [BitVec.toNat_setWidth, BitVec.toNat_and, BitVec.toNat_setWidth]
  have e1 : n.toNat % 2 ^ 8 = n.toNat := Nat.mod_eq_of_lt (by omega)
  rw [e1]
  have e2 : n.toNat &&& (127#8).toNat = n.toNat % 2 ^ 7 := Nat.and_two_pow_sub_one_eq_mod n.toNat 7
  rw [e2]
  omega
theorem lo_facts (n : BitVec 64) (h : ¬ 128#64 ≤ n) (i : Nat) (hi : i ≤ 9) (hb : n.toNat < 2 ^ (64 - 7 * i)) (h0 : 0 < i → n ≠ 0#64) : ¬ ((i = 9 ∧ 1#8 < n.setWidth 8) ∨ (0 < i ∧ n.setWidth 8 = 0#8)) ∧ n.setWidth 8 < 128#8 := by
  have hn : n.toNat < 128 := by have := h; rw [BitVec.le_def] at this; simpa using this
  have hs : (n.setWidth 8).toNat = n.toNat := by rw [BitVec.toNat_setWidth]; omega
  refine ⟨?_, by rw [BitVec.lt_def, hs]; exact hn⟩
  rintro (⟨rfl, h1⟩ | ⟨h1, h2⟩)
  · rw [BitVec.lt_def, hs] at h1
    have : (1#8).toNat = 1 := rfl
    omega
  · apply h0 h1
    apply BitVec.eq_of_toNat_eq
    have := congrArg BitVec.toNat h2
    rw [hs] at this
    simpa using this
theorem hi_facts (n : BitVec 64) (h : 128#64 ≤ n) (i : Nat) (hi : i ≤ 9) (hb : n.toNat < 2 ^ (64 - 7 * i)) : i ≤ 8 ∧ ¬ ((i = 9 ∧ 1#8 < (n.setWidth 8 ||| 128#8)) ∨ (0 < i ∧ (n.setWidth 8 ||| 128#8) = 0#8)) ∧ ¬ (n.setWidth 8 ||| 128#8) < 128#8 ∧ (n >>> 7).toNat < 2 ^ (64 - 7 * (i + 1)) ∧ n >>> 7 ≠ 0#64 := by
  have hn : 128 ≤ n.toNat := by have := h; rw [BitVec.le_def] at this; simpa using this
  have hi8 : i ≤ 8 := by
    rcases Nat.lt_or_ge i 9 with h | h
    · omega
    · obtain rfl : i = 9 := by omega
      simp at hb; omega
  have h8 : 128 ≤ (n.setWidth 8 ||| 128#8).toNat := by rw [BitVec.toNat_or]; exact Nat.right_le_or
  have hsr : (n >>> 7).toNat = n.toNat / 128 := by rw [BitVec.toNat_ushiftRight, Nat.shiftRight_eq_div_pow]
  refine ⟨hi8, ?_, ?_, ?_, ?_⟩
  · rintro (⟨h1, -⟩ | ⟨-, h2⟩)
    · omega
    · rw [h2] at h8; simp at h8
  · rw [BitVec.lt_def]; have : (128#8).toNat = 128 := rfl; omega
  · rw [hsr]
    have : 2 ^ (64 - 7 * i) = 2 ^ (64 - 7 * (i + 1)) * 128 := by
      rw [show 64 - 7 * i = (64 - 7 * (i + 1)) + 7 by omega, Nat.pow_add]
    omega
  · intro h0
    have := congrArg BitVec.toNat h0
    rw [hsr] at this
    simp at this
    omega
theorem rnum_onum_go (k : Nat) : ∀ (i : Nat) (n acc : BitVec 64) (rest : List Byte), 9 - i = k → i ≤ 9 → n.toNat < 2 ^ (64 - 7 * i) → (0 < i → n ≠ 0#64) →
    rnum (onum n ++ rest) i acc = .inr (acc ||| n <<< (7 * i), i + (onum n).length) := by
  induction k with
  | zero =>
    intro i n acc rest hk hi hb h0
    by_cases h : 128#64 ≤ n
    · have := (hi_facts n h i hi hb).1; omega
    · obtain ⟨h1, h2⟩ := lo_facts n h i hi hb h0
      rw [onum_lt h, List.singleton_append, rnum, if_neg h1, if_pos h2, small7 n h]; rfl
  | succ k ih =>
    intro i n acc rest hk hi hb h0
    by_cases h : 128#64 ≤ n
    · obtain ⟨h8, h1, h2, h3, h4⟩ := hi_facts n h i hi hb
      rw [onum_ge h, List.cons_append, rnum, if_neg h1, if_neg h2, ih (i + 1) (n >>> 7) _ rest (by omega) (by omega) h3 (fun _ => h4), seven n i (by omega)]
      simp only [List.length_cons]
      congr 2
      omega
    · obtain ⟨h1, h2⟩ := lo_facts n h i hi hb h0
      rw [onum_lt h, List.singleton_append, rnum, if_neg h1, if_pos h2, small7 n h]; rfl
/-- A number that was written is read. -/
theorem rnum_onum (n : BitVec 64) (rest : List Byte) : rnum (onum n ++ rest) 0 0#64 = .inr (n, (onum n).length) := by
  have := rnum_onum_go 9 0 n 0#64 rest rfl (by omega) n.isLt (by omega)
  rw [this]; simp
theorem onum_inj {n m : BitVec 64} (h : onum n = onum m) : n = m := by
  have h1 := rnum_onum n []
  rw [h, rnum_onum] at h1
  injection h1 with h1
  exact (congrArg Prod.fst h1).symm
theorem onum_cut_go (k : Nat) : ∀ (i : Nat) (n acc : BitVec 64), 9 - i = k → i ≤ 9 → n.toNat < 2 ^ (64 - 7 * i) → (0 < i → n ≠ 0#64) → ∀ ys y, onum n = ys ++ [y] → rnum ys i acc = .inl 5 ∧ rnum (ys ++ [y ||| 128#8, 0#8]) i acc = .inl 4 := by
  have hone : ∀ (i : Nat) (n acc : BitVec 64), ¬ 128#64 ≤ n → ∀ ys y, onum n = ys ++ [y] → rnum ys i acc = .inl 5 ∧ rnum (ys ++ [y ||| 128#8, 0#8]) i acc = .inl 4 := by
    intro i n acc h ys y he
    rw [onum_lt h] at he
    cases ys with
    | cons z zs => simp at he
    | nil =>
      refine ⟨rfl, ?_⟩
      have h8 : 128 ≤ (y ||| 128#8).toNat := by rw [BitVec.toNat_or]; exact Nat.right_le_or
      rw [List.nil_append, rnum]
      by_cases h9 : i = 9
      · rw [if_pos (.inl ⟨h9, by rw [BitVec.lt_def]; have : (1#8).toNat = 1 := rfl; omega⟩)]
      · rw [if_neg (by rintro (⟨h, -⟩ | ⟨-, h⟩); exact h9 h; rw [h] at h8; simp at h8), if_neg (by rw [BitVec.lt_def]; have : (128#8).toNat = 128 := rfl; omega), rnum, if_pos (.inr ⟨by omega, rfl⟩)]
  induction k with
  | zero =>
    intro i n acc hk hi hb h0 ys y he
    by_cases h : 128#64 ≤ n
    · have := (hi_facts n h i hi hb).1; omega
    · exact hone i n acc h ys y he
  | succ k ih =>
    intro i n acc hk hi hb h0 ys y he
    by_cases h : 128#64 ≤ n
    · obtain ⟨h8, h1, h2, h3, h4⟩ := hi_facts n h i hi hb
      rw [onum_ge h] at he
      cases ys with
      | nil =>
        have hl := congrArg List.length he
        have hp := onum_len_pos (n >>> 7)
        simp only [List.length_cons, List.nil_append, List.length_nil] at hl
        omega
      | cons z zs =>
        simp only [List.cons_append, List.cons.injEq] at he
        obtain ⟨rfl, he⟩ := he
        have := ih (i + 1) (n >>> 7) (acc ||| (((n.setWidth 8 ||| 128#8) &&& 127#8).setWidth 64) <<< (7 * i)) (by omega) (by omega) h3 (fun _ => h4) zs y he
        rw [List.cons_append, rnum, if_neg h1, if_neg h2, rnum, if_neg h1, if_neg h2]
        exact this
    · exact hone i n acc h ys y he
/-- A number cut short wants more; one made longer by a nought is bad. -/
theorem onum_cut (n : BitVec 64) (ys : List Byte) (y : Byte) (h : onum n = ys ++ [y]) : rnum ys 0 0#64 = .inl 5 ∧ rnum (ys ++ [y ||| 128#8, 0#8]) 0 0#64 = .inl 4 :=
  onum_cut_go 9 0 n 0#64 rfl (by omega) n.isLt (by omega) ys y h
theorem xword_oword_bit (q : Nat) : ∀ (n : BitVec 64), 8 * q ≤ 64 → ∀ j, (xword (oword q n)).getLsbD j = (decide (j < 8 * q) && n.getLsbD j) := by
  induction q with
  | zero => intro n h j; simp [oword, xword]
  | succ q ih =>
    intro n h j
    rw [oword, xword]
    simp only [BitVec.getLsbD_or, BitVec.getLsbD_setWidth, BitVec.getLsbD_shiftLeft, ih (n >>> 8) (by omega), BitVec.getLsbD_ushiftRight]
    by_cases h8 : j < 8
    · simp [h8, show j < 64 by omega, show j < 8 * (q + 1) by omega]
    · rcases Nat.lt_or_ge j 64 with h64 | h64
      · rw [show 8 + (j - 8) = j by omega]
        by_cases hq : j < 8 * (q + 1)
        · simp [h8, h64, hq, show j - 8 < 8 * q by omega]
        · simp [h8, h64, hq, show ¬ j - 8 < 8 * q by omega]
      · rw [BitVec.getLsbD_of_ge n j h64]
        simp [h8, show ¬ j < 64 by omega]
/-- A word that was written is read: modulo what its bytes hold. -/
theorem xword_oword (q : Nat) (n : BitVec 64) (h : 8 * q ≤ 64) : (xword (oword q n)).toNat = n.toNat % 2 ^ (8 * q) := by
  have e : xword (oword q n) = (n.setWidth (8 * q)).setWidth 64 := by
    apply BitVec.eq_of_getLsbD_eq
    intro j hj
    rw [xword_oword_bit q n h, BitVec.getLsbD_setWidth, BitVec.getLsbD_setWidth]
    simp [hj]
  rw [e, BitVec.toNat_setWidth, BitVec.toNat_setWidth]
  refine Nat.mod_eq_of_lt (Nat.lt_of_lt_of_le (Nat.mod_lt _ (Nat.two_pow_pos _)) (Nat.pow_le_pow_right (by omega) h))
end Go.Proofs.Ytjhgnohofcahbaa
