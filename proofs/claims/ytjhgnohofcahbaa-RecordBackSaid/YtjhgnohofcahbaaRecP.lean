/- A record's bytes and what Read makes of them, in plain Lean. -/
import Derived.Test.YtjhgnohofcahbaaRecL
import Derived.Test.YtjhgnohofcahbaaOctQ
set_option linter.unusedVariables false
set_option linter.unusedSimpArgs false
namespace Go.Proofs.Ytjhgnohofcahbaa

theorem lt_bit (m : BitVec 64) (k j : Nat) (h : m.toNat < 2 ^ k) (hj : k ≤ j) : m.getLsbD j = false := by
  unfold BitVec.getLsbD
  exact Nat.testBit_lt_two_pow (Nat.lt_of_lt_of_le h (Nat.pow_le_pow_right (by omega) hj))
theorem and127_bit (c : BitVec 8) (j : Nat) : (((c &&& 127#8).setWidth 64).getLsbD j) = (decide (j < 7) && c.getLsbD j) := by
  have h127 : (127#8).getLsbD j = decide (j < 7) := by
    rcases Nat.lt_or_ge j 8 with h | h
    · have : ∀ j : Fin 8, (127#8).getLsbD j.val = decide (j.val < 7) := by decide
      exact this ⟨j, h⟩
    · rw [BitVec.getLsbD_of_ge _ _ h]; simp; omega
  rw [BitVec.getLsbD_setWidth, BitVec.getLsbD_and, h127]
  by_cases h : j < 7
  · simp [h, show j < 64 by omega]
  · simp [h]
theorem up7 (m : BitVec 64) (c : BitVec 8) (h : m.toNat < 2 ^ 57) : (m <<< 7 ||| (c &&& 127#8).setWidth 64) >>> 7 = m := by
  apply BitVec.eq_of_getLsbD_eq
  intro j hj
  rw [BitVec.getLsbD_ushiftRight, BitVec.getLsbD_or, and127_bit, BitVec.getLsbD_shiftLeft]
  rcases Nat.lt_or_ge j 57 with h57 | h57
  · simp [show 7 + j < 64 by omega, show 7 + j - 7 = j by omega, show ¬ 7 + j < 7 by omega]
  · rw [lt_bit m 57 j h h57]
    simp [show ¬ 7 + j < 64 by omega, show ¬ 7 + j < 7 by omega]
theorem lo8 (m : BitVec 64) (c : BitVec 8) (hc : ¬ c < 128#8) : ((m <<< 7 ||| (c &&& 127#8).setWidth 64).setWidth 8 ||| 128#8) = c := by
  apply BitVec.eq_of_getLsbD_eq
  intro j hj
  rw [BitVec.getLsbD_or, BitVec.getLsbD_setWidth, BitVec.getLsbD_or, and127_bit, BitVec.getLsbD_shiftLeft]
  have h7 : c.getLsbD 7 = true := by
    have : 128 ≤ c.toNat := by rw [BitVec.lt_def] at hc; have : (128#8).toNat = 128 := rfl; omega
    have hall : ∀ c : BitVec 8, 128 ≤ c.toNat → c.getLsbD 7 = true := by decide
    exact hall c this
  have h128 : ∀ j : Fin 8, (128#8).getLsbD j.val = decide (j.val = 7) := by decide
  rw [h128 ⟨j, hj⟩]
  by_cases h : j < 7
  · simp [h, hj, show j ≠ 7 by omega]
  · obtain rfl : j = 7 := by omega
    simp [h7]
theorem rnum_canon : ∀ (ys : List Byte) (i : Nat) (a n : BitVec 64) (s : Nat), i ≤ 9 → rnum ys i a = .inr (n, s) → ∃ m, ys.take (s - i) = onum m ∧ n = a ||| m <<< (7 * i) ∧ m.toNat < 2 ^ (64 - 7 * i) ∧ (0 < i → m ≠ 0#64)
  | [], i, a, n, s, hi, h => by cases h
  | c :: rs, i, a, n, s, hi, h => by
    rw [rnum] at h
    by_cases hbad : (i = 9 ∧ 1#8 < c) ∨ (0 < i ∧ c = 0#8)
    · rw [if_pos hbad] at h; cases h
    · rw [if_neg hbad] at h
      by_cases hc : c < 128#8
      · rw [if_pos hc] at h
        simp only [Sum.inr.injEq, Prod.mk.injEq] at h
        obtain ⟨rfl, rfl⟩ := h
        have hcn : c.toNat < 128 := by rw [BitVec.lt_def] at hc; exact hc
        have hand : c &&& 127#8 = c := by
          apply BitVec.eq_of_toNat_eq
          rw [BitVec.toNat_and]
          have : c.toNat &&& (127#8).toNat = c.toNat % 2 ^ 7 := Nat.and_two_pow_sub_one_eq_mod c.toNat 7
          rw [this]; omega
        have hm : (c.setWidth 64).toNat = c.toNat := by rw [BitVec.toNat_setWidth]; omega
        refine ⟨c.setWidth 64, ?_, by rw [hand], ?_, ?_⟩
        · rw [onum_lt (by rw [BitVec.le_def, hm]; have : (128#64).toNat = 128 := rfl; omega), show i + 1 - i = 1 by omega]
          simp
        · rw [hm]
          rcases Nat.lt_or_ge i 9 with h9 | h9
          · have : 2 ^ 8 ≤ 2 ^ (64 - 7 * i) := Nat.pow_le_pow_right (by omega) (by omega)
            omega
          · obtain rfl : i = 9 := by omega
            simp only [not_or, not_and] at hbad
            have := hbad.1 (by trivial)
            rw [BitVec.lt_def] at this
            have h1 : (1#8).toNat = 1 := rfl
            omega
        · intro h0 he
          have := congrArg BitVec.toNat he
          rw [hm] at this
          simp only [not_or, not_and] at hbad
          exact hbad.2 h0 (BitVec.eq_of_toNat_eq (by simpa using this))
      · rw [if_neg hc] at h
        have hcn : 128 ≤ c.toNat := by rw [BitVec.lt_def] at hc; have : (128#8).toNat = 128 := rfl; omega
        have hi8 : i ≤ 8 := by
          rcases Nat.lt_or_ge i 9 with h9 | h9
          · omega
          · exfalso
            obtain rfl : i = 9 := by omega
            simp only [not_or, not_and] at hbad
            have := hbad.1 (by trivial)
            rw [BitVec.lt_def] at this
            have h1 : (1#8).toNat = 1 := rfl
            omega
        obtain ⟨m, h1, h2, h3, h4⟩ := rnum_canon rs (i + 1) _ n s (by omega) h
        have hs := (rnum_len rs (i + 1) _ n s h).1
        have h57 : m.toNat < 2 ^ 57 := Nat.lt_of_lt_of_le h3 (Nat.pow_le_pow_right (by omega) (by omega))
        have hup := up7 m c h57
        have hm0 : 1 ≤ m.toNat := by
          rcases Nat.eq_zero_or_pos m.toNat with h | h
          · exact absurd (BitVec.eq_of_toNat_eq (by simpa using h)) (h4 (by omega))
          · exact h
        have hge : 128#64 ≤ (m <<< 7 ||| (c &&& 127#8).setWidth 64) := by
          rw [BitVec.le_def]
          have := congrArg BitVec.toNat hup
          rw [BitVec.toNat_ushiftRight, Nat.shiftRight_eq_div_pow] at this
          have h128 : (128#64).toNat = 128 := rfl
          omega
        refine ⟨m <<< 7 ||| (c &&& 127#8).setWidth 64, ?_, ?_, ?_, ?_⟩
        · rw [onum_ge hge, hup, lo8 m c hc, ← h1, show s - i = (s - (i + 1)) + 1 by omega, List.take_succ_cons]
        · rw [h2, BitVec.shiftLeft_or_distrib, show 7 * (i + 1) = 7 + 7 * i by omega, BitVec.shiftLeft_add, BitVec.or_assoc, BitVec.or_comm ((((c &&& 127#8).setWidth 64)) <<< (7 * i))]
        · have hdiv : (m <<< 7 ||| (c &&& 127#8).setWidth 64).toNat / 128 = m.toNat := by
            have := congrArg BitVec.toNat hup
            rw [BitVec.toNat_ushiftRight, Nat.shiftRight_eq_div_pow] at this; exact this
          have hp : 2 ^ (64 - 7 * i) = 2 ^ (64 - 7 * (i + 1)) * 128 := by
            rw [show 64 - 7 * i = (64 - 7 * (i + 1)) + 7 by omega, Nat.pow_add]
          omega
        · intro _ he
          rw [he] at hge
          revert hge; decide
/-- What a number is read of is that number's bytes. -/
theorem rnum_take {ys : List Byte} {n : BitVec 64} {s : Nat} (h : rnum ys 0 0#64 = .inr (n, s)) : ys = onum n ++ ys.drop s ∧ s = (onum n).length := by
  obtain ⟨m, h1, h2, -, -⟩ := rnum_canon ys 0 0#64 n s (by omega) h
  have : n = m := by rw [h2]; simp
  subst this
  have hl := (rnum_len ys 0 _ n s h).2
  rw [Nat.sub_zero] at h1
  refine ⟨by rw [← h1, List.take_append_drop], ?_⟩
  rw [← h1, List.length_take]; omega
section
variable (ks vs : List Byte) (o s : BitVec 64) (zs : List Byte) (hk : ks.length ≤ 512) (ho : o.toNat ≤ 65536) (hs : s.toNat ≤ 131072)
def rp1 (ks : List Byte) : Nat := (onum (BitVec.ofNat 64 ks.length)).length + ks.length
include hk
theorem rdK_raw : rdK (recRaw ks o s vs ++ zs) = (ks, rp1 ks, 0) := by
  have hn : (BitVec.ofNat 64 ks.length).toNat = ks.length := by rw [BitVec.toNat_ofNat]; omega
  have e : recRaw ks o s vs ++ zs = onum (BitVec.ofNat 64 ks.length) ++ (ks ++ (onum o ++ (onum s ++ (vs ++ zs)))) := by simp [recRaw, oblock]
  unfold rdK sblk rblk
  rw [if_pos rfl, List.drop_zero, e, rnum_onum]
  simp only
  rw [if_neg (by rw [hn]; simp only [List.length_append]; omega), hn, Nat.zero_add, List.drop_left, List.take_left]
  rfl
theorem raw_drop1 : (recRaw ks o s vs ++ zs).drop (rp1 ks) = onum o ++ (onum s ++ (vs ++ zs)) := by
  have _ := hk
  have e : recRaw ks o s vs ++ zs = (onum (BitVec.ofNat 64 ks.length) ++ ks) ++ (onum o ++ (onum s ++ (vs ++ zs))) := by simp [recRaw, oblock]
  rw [e, List.drop_left' (by simp [rp1])]
include ho
theorem rdO_raw : rdO (recRaw ks o s vs ++ zs) = (o, rp1 ks + (onum o).length, 0) := by
  unfold rdO supto rupto
  rw [rdK_raw ks vs o s zs hk]
  simp only
  rw [if_pos trivial, raw_drop1 ks vs o s zs hk, rnum_onum]
  simp only
  rw [if_neg (by rw [BitVec.lt_def]; have : (65536#64).toNat = 65536 := rfl; omega)]
theorem raw_drop2 : (recRaw ks o s vs ++ zs).drop (rp1 ks + (onum o).length) = onum s ++ (vs ++ zs) := by
  have _ := ho
  rw [← List.drop_drop, raw_drop1 ks vs o s zs hk, List.drop_left]
include hs
theorem rdS_raw : rdS (recRaw ks o s vs ++ zs) = (s, rp1 ks + (onum o).length + (onum s).length, 0) := by
  unfold rdS supto rupto
  rw [rdO_raw ks vs o s zs hk ho]
  simp only
  rw [if_pos trivial, raw_drop2 ks vs o s zs hk ho, rnum_onum]
  simp only
  rw [if_neg (by rw [BitVec.lt_def]; have : (131072#64).toNat = 131072 := rfl; omega)]
theorem raw_drop3 : (recRaw ks o s vs ++ zs).drop (rp1 ks + (onum o).length + (onum s).length) = vs ++ zs := by
  have _ := hs
  rw [← List.drop_drop, raw_drop2 ks vs o s zs hk ho, List.drop_left]
theorem raw_length : (recRaw ks o s vs).length = rp1 ks + (onum o).length + (onum s).length + vs.length := by
  have _ := hk
  have _ := ho
  have _ := hs
  unfold recRaw oblock rp1
  simp only [List.length_append]; omega
theorem rdV_raw (hv : if o = 0#64 then vs.length = s.toNat else vs = []) : rdV (recRaw ks o s vs ++ zs) = (vs, (recRaw ks o s vs).length, 0) := by
  unfold rdV
  rw [rdO_raw ks vs o s zs hk ho, rdS_raw ks vs o s zs hk ho hs]
  simp only
  by_cases h0 : o = 0#64
  · rw [if_pos h0] at hv ⊢
    have hnb : nb s = (vs.length : Int) := by unfold nb; omega
    unfold sfix
    rw [if_pos rfl, if_neg (by rw [hnb, List.length_append, raw_length ks vs o s hk ho hs]; omega), raw_drop3 ks vs o s zs hk ho hs, hnb, Int.toNat_natCast, List.take_left, raw_length ks vs o s hk ho hs]
  · rw [if_neg h0] at hv ⊢
    subst hv
    rw [raw_length ks [] o s hk ho hs]; rfl
end
/-- Parts that may be a record's. -/
def recMay (ks vs : List Byte) (o s : BitVec 64) : Prop := rcheck ks.length (nb o) (nb s) vs.length = 0
theorem recMay_facts {ks vs : List Byte} {o s : BitVec 64} (h : recMay ks vs o s) : 1 ≤ ks.length ∧ ks.length ≤ 512 ∧ o.toNat ≤ 65536 ∧ s.toNat ≤ 131072 ∧ (if o = 0#64 then vs.length = s.toNat else vs = []) := by
  unfold recMay rcheck at h
  have eo : nb o = (o.toNat : Int) := rfl
  have es : nb s = (s.toNat : Int) := rfl
  split at h
  · cases h
  · have hoz : nb o = 0 ↔ o = 0#64 := ⟨fun h => BitVec.eq_of_toNat_eq (by simp; omega), fun h => by rw [h, nb_zero]⟩
    refine ⟨by omega, by omega, by omega, by omega, ?_⟩
    split at h
    · rename_i h0
      rw [if_pos (hoz.1 h0)]
      split at h
      · omega
      · cases h
    · rename_i h0
      rw [if_neg (fun h => h0 (hoz.2 h))]
      split at h
      · rename_i h1; exact List.eq_nil_of_length_eq_zero h1
      · cases h
/-- A record's bytes are read: whole, and not with more behind them. -/
theorem raw_read {ks vs : List Byte} {o s : BitVec 64} (h : recMay ks vs o s) : rdOk (recRaw ks o s vs) ∧ (rdK (recRaw ks o s vs)).1 = ks ∧ (rdO (recRaw ks o s vs)).1 = o ∧ (rdS (recRaw ks o s vs)).1 = s ∧ (rdV (recRaw ks o s vs)).1 = vs := by
  obtain ⟨-, h1, h2, h3, h4⟩ := recMay_facts h
  have e1 := rdK_raw ks vs o s [] h1
  have e2 := rdO_raw ks vs o s [] h1 h2
  have e3 := rdS_raw ks vs o s [] h1 h2 h3
  have e4 := rdV_raw ks vs o s [] h1 h2 h3 h4
  rw [List.append_nil] at e1 e2 e3 e4
  refine ⟨⟨?_, ?_⟩, by rw [e1], by rw [e2], by rw [e3], by rw [e4]⟩
  · unfold rdE; rw [e4]; simp [rend]
  · rw [e1, e2, e3, e4]; exact h
theorem raw_more {ks vs : List Byte} {o s : BitVec 64} (h : recMay ks vs o s) (zs : List Byte) (hz : zs ≠ []) : ¬ rdOk (recRaw ks o s vs ++ zs) := by
  obtain ⟨-, h1, h2, h3, h4⟩ := recMay_facts h
  rintro ⟨he, -⟩
  unfold rdE at he
  rw [rdV_raw ks vs o s zs h1 h2 h3 h4] at he
  have : 0 < zs.length := List.length_pos_iff.2 hz
  simp [rend, List.length_append] at he
  exact hz he
theorem supto_ok {xs : List Byte} {p : Nat} {e : Int} {m : BitVec 64} (h : (supto xs p e m).2.2 = 0) : e = 0 ∧ xs.drop p = onum (supto xs p e m).1 ++ xs.drop (supto xs p e m).2.1 := by
  unfold supto at *
  by_cases he : e = 0
  · rw [if_pos he] at h ⊢
    refine ⟨he, ?_⟩
    unfold rupto at *
    cases hr : rnum (xs.drop p) 0 0#64 with
    | inl x =>
      rw [hr] at h
      have := rnum_err _ _ _ _ hr
      simp only at h; omega
    | inr q =>
      obtain ⟨n, s⟩ := q
      rw [hr] at h
      simp only at h ⊢
      by_cases hm : m < n
      · rw [if_pos hm] at h; cases h
      · rw [if_neg hm]
        have := (rnum_take hr).1
        rw [List.drop_drop] at this
        exact this
  · rw [if_neg he] at h; exact absurd h he
theorem sblk_ok {xs : List Byte} {p : Nat} {e : Int} (h : (sblk xs p e).2.2 = 0) : e = 0 ∧ xs.drop p = oblock (sblk xs p e).1 ++ xs.drop (sblk xs p e).2.1 := by
  unfold sblk at *
  by_cases he : e = 0
  · rw [if_pos he] at h ⊢
    refine ⟨he, ?_⟩
    unfold rblk at *
    cases hr : rnum (xs.drop p) 0 0#64 with
    | inl x =>
      rw [hr] at h
      have := rnum_err _ _ _ _ hr
      simp only at h; omega
    | inr q =>
      obtain ⟨n, s⟩ := q
      rw [hr] at h
      simp only at h ⊢
      by_cases hm : xs.length - p - s < n.toNat
      · rw [if_pos hm] at h; cases h
      · rw [if_neg hm]
        have h1 := (rnum_take hr).1
        rw [List.drop_drop] at h1
        have hl : ((xs.drop (p + s)).take n.toNat).length = n.toNat := by rw [List.length_take, List.length_drop]; omega
        have hn : BitVec.ofNat 64 n.toNat = n := by simp
        simp only
        have e5 : xs.drop (p + s + n.toNat) = (xs.drop (p + s)).drop n.toNat := by rw [List.drop_drop]
        rw [oblock, hl, hn, List.append_assoc, e5, List.take_append_drop]
        exact h1
  · rw [if_neg he] at h; exact absurd h he
theorem sfix_ok {xs : List Byte} {p : Nat} {e z : Int} (h : (sfix xs p e z).2.2 = 0) : e = 0 ∧ xs.drop p = (sfix xs p e z).1 ++ xs.drop (sfix xs p e z).2.1 := by
  unfold sfix at *
  by_cases he : e = 0
  · rw [if_pos he] at h ⊢
    refine ⟨he, ?_⟩
    by_cases hm : (xs.length : Int) - p < z
    · rw [if_pos hm] at h; cases h
    · rw [if_neg hm]
      simp only
      rw [← List.drop_drop, List.take_append_drop]
  · rw [if_neg he] at h; exact absurd h he
/-- No other bytes are read. -/
theorem rdOk_raw {xs : List Byte} (h : rdOk xs) : recMay (rdK xs).1 (rdV xs).1 (rdO xs).1 (rdS xs).1 ∧ xs = recRaw (rdK xs).1 (rdO xs).1 (rdS xs).1 (rdV xs).1 := by
  refine ⟨h.2, ?_⟩
  have he := h.1
  unfold rdE rend at he
  have hv : (rdV xs).2.2 = 0 ∧ xs.length ≤ (rdV xs).2.1 := by
    split at he
    · cases he
    · rename_i hn; exact ⟨he, by omega⟩
  have h4 : (rdS xs).2.2 = 0 ∧ xs.drop (rdS xs).2.1 = (rdV xs).1 := by
    have hd : xs.drop (rdV xs).2.1 = [] := List.drop_eq_nil_of_le hv.2
    have hv1 := hv.1
    unfold rdV at hv1 hd ⊢
    by_cases h0 : (rdO xs).1 = 0#64
    · rw [if_pos h0] at hv1 hd ⊢
      have q := sfix_ok hv1
      rw [hd, List.append_nil] at q
      exact q
    · rw [if_neg h0] at hv1 hd ⊢
      exact ⟨hv1, hd⟩
  have h3 := supto_ok h4.1
  have h2 := supto_ok h3.1
  have h1 := sblk_ok h2.1
  have e1 : xs = oblock (rdK xs).1 ++ xs.drop (rdK xs).2.1 := h1.2
  have e2 : xs.drop (rdK xs).2.1 = onum (rdO xs).1 ++ xs.drop (rdO xs).2.1 := h2.2
  have e3 : xs.drop (rdO xs).2.1 = onum (rdS xs).1 ++ xs.drop (rdS xs).2.1 := h3.2
  unfold recRaw
  rw [← h4.2, ← e3, ← e2, ← e1]
/-- Cut short by one byte they are not read. -/
theorem raw_cut {ks vs ys : List Byte} {o s : BitVec 64} {y : Byte} (h : recMay ks vs o s) (hy : recRaw ks o s vs = ys ++ [y]) : ¬ rdOk ys := by
  intro hk
  obtain ⟨h1, h2⟩ := rdOk_raw hk
  have := raw_more h1 [y] (by simp)
  rw [← h2, ← hy] at this
  exact this (raw_read h).1
end Go.Proofs.Ytjhgnohofcahbaa
