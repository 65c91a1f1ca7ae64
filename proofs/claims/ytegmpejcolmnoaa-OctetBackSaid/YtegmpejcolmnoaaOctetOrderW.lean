/- The walk of OctetOrder. -/
import Derived.Test.YtegmpejcolmnoaaOctetLaysW
set_option linter.unusedVariables false
set_option linter.unusedSimpArgs false
namespace Go.Proofs.Ytegmpejcolmnoaa
open Go.ChangeShapes Go.WideShapes Go.ChangeAt Go.RowKit

theorem onum_mono (k : Nat) : ∀ (n m : BitVec 64), n.toNat ≤ k → n ≤ m → (onum n).length ≤ (onum m).length := by
  induction k using Nat.strongRecOn with
  | ind k ih =>
    intro n m hk h
    have hnm : n.toNat ≤ m.toNat := by simpa [BitVec.le_def] using h
    by_cases hn : 128#64 ≤ n
    · have h1 : 128 ≤ n.toNat := by simpa [BitVec.le_def] using hn
      have hm : 128#64 ≤ m := by rw [BitVec.le_def]; have : (128#64).toNat = 128 := rfl; omega
      rw [onum_ge hn, onum_ge hm]
      have := ih (n >>> 7).toNat (by rw [BitVec.toNat_ushiftRight, Nat.shiftRight_eq_div_pow]; omega) (n >>> 7) (m >>> 7) (Nat.le_refl _) (by
        rw [BitVec.le_def, BitVec.toNat_ushiftRight, BitVec.toNat_ushiftRight, Nat.shiftRight_eq_div_pow, Nat.shiftRight_eq_div_pow]
        exact Nat.div_le_div_right hnm)
      simp only [List.length_cons]; omega
    · rw [onum_lt hn]
      exact onum_len_pos m
theorem onum_le {n m : BitVec 64} (h : n ≤ m) : (onum n).length ≤ (onum m).length := onum_mono n.toNat n m (Nat.le_refl _) h
theorem oword_add (a b : Nat) (n : BitVec 64) : oword (a + b) n = oword a n ++ oword b (n >>> (8 * a)) := by
  induction a generalizing n with
  | zero => simp [oword]
  | succ a ih =>
    rw [show a + 1 + b = (a + b) + 1 by omega, oword, ih, oword, List.cons_append, show 8 * (a + 1) = 8 + 8 * a by omega, BitVec.shiftRight_add]
theorem oword_44 (n : BitVec 64) : oword 8 n = oword 4 n ++ oword 4 (n >>> 32) := oword_add 4 4 n

theorem calls_sliceN {P : Program} {f : FuncId} {args : Array Value} {w : World} {Y : List Byte} {N : Nat} (hN : Y.length = N) (h : Calls P f args w fun e w' => ∃ v, e = .returned v ∧ Own w' w.heap.size v Y ∧ Below w.heap.size w w') :
    Calls P f args w fun e w' => ∃ A c, e = .returned (.slice A N c) ∧ N ≤ c ∧ c ≤ maxLen ∧ Rd w' A Y ∧ FB w w' :=
  h.mono fun e w' ⟨v, h1, h2, h3⟩ => by
    obtain ⟨A, c, rfl, h4, h5, h6, -⟩ := Own.form h2
    rw [hN] at h1 h4
    exact ⟨A, c, h1, h4, h5, h6, h3⟩
theorem oct_WordN (q : Nat) (z : Int) (hz : z = q) (hq : q = 2 ∨ q = 4 ∨ q = 8) (xs : List Byte) (A : Option Addr) (n c : Nat) (m : BitVec 64) (w : World) (hn : xs.length = n) (hc : n ≤ c) (hcm : c ≤ maxLen) (hm : n ≤ 100000000000) (hr : Rd w A xs) :
    Calls Try.prog 32 #[.slice A n c, .int .u64 (nb m), .int .i64 z] w fun e w' => ∃ A' c', e = .returned (.slice A' (n + q) c') ∧ n + q ≤ c' ∧ c' ≤ maxLen ∧ Rd w' A' (xs ++ oword q m) ∧ FB w w' := by
  subst hz hn
  have hz : owordZ (q : Int) m = oword q m := by rcases hq with rfl | rfl | rfl <;> simp [owordZ]
  have h := oct_Word xs A _ c m (q : Int) w rfl hc hcm (by omega) hr
  rw [hz] at h
  exact calls_sliceN (by rw [List.length_append, oword_len]) h
attribute [local go_sem] nb_nonneg nb_lt64 nb_shr_32

set_option maxRecDepth 100000 in
set_option maxHeartbeats 2000000 in
theorem octetOrder_few (n m : BitVec 64) (A0 : Option Addr) (c0 : Nat) (xs : List Byte) (w : World) (h0 : xs.length ≤ 3000) (hc0 : xs.length ≤ c0) (hm0 : c0 ≤ maxLen) (hr0 : Rd w A0 xs) :
    Calls Try.prog 6 #[.int .u64 (nb n), .int .u64 (nb m), .slice A0 xs.length c0] w fun e w' => e = .returned (.bool true) ∧ Below w.heap.size w w' := by
  have HR0 := Lib.hid hr0
  clear hr0
  have hn1 := onum_len_pos n
  have hn10 := onum_len10 n
  have hcase : (nb n ≤ nb m ∧ ¬ nb m ≤ nb n ∧ ¬ (onum m).length < (onum n).length) ∨ (nb n ≤ nb m ∧ nb m ≤ nb n ∧ ¬ (onum m).length < (onum n).length ∧ ¬ (onum n).length < (onum m).length) ∨ (¬ nb n ≤ nb m ∧ nb m ≤ nb n ∧ ¬ (onum n).length < (onum m).length) := by
    rw [nb_le_nb, nb_le_nb]
    by_cases h1 : n ≤ m
    · have := onum_le h1
      by_cases h2 : m ≤ n
      · have := onum_le h2
        exact .inr (.inl ⟨h1, h2, by omega, by omega⟩)
      · exact .inl ⟨h1, h2, by omega⟩
    · have h2 : m ≤ n := by rw [BitVec.le_def] at h1 ⊢; omega
      have := onum_le h2
      exact .inr (.inr ⟨h1, h2, by omega⟩)
  have HOn := Lib.hid (fun W => oct_Size n W)
  have HOm := Lib.hid (fun W => oct_Size m W)
  have HLM := Lib.hid (onum_len10 m)
  obtain ⟨ln, hln⟩ : ∃ ln, ln = (onum n).length := ⟨_, rfl⟩
  obtain ⟨lm, hlm⟩ : ∃ lm, lm = (onum m).length := ⟨_, rfl⟩
  have HLn := Lib.hid hln
  have HLm := Lib.hid hlm
  rw [← hln] at hn1 hn10 hcase HOn
  rw [← hlm] at hcase HOm HLM
  clear hln hlm
  obtain ⟨lk, hlk⟩ : ∃ lk, lk = (onum (BitVec.ofNat 64 xs.length)).length := ⟨_, rfl⟩
  have HLK := Lib.hid hlk
  have hlk10 : lk ≤ 10 := by rw [hlk]; exact onum_len10 _
  obtain ⟨Lx, hLx⟩ : ∃ Lx, Lx = xs.length + lm + (lk + xs.length) := ⟨_, rfl⟩
  have HLX := Lib.hid hLx
  have HOk := Lib.hid (fun W => show Calls Try.prog 36 #[.int .u64 (xs.length : Int)] W fun e w' => e = .returned (.int .i64 (lk : Nat)) ∧ Below W.heap.size W w' from by
    have := oct_Size (BitVec.ofNat 64 xs.length) W
    rw [len64 xs.length (by omega), ← hlk] at this; exact this)
  clear hlk hLx
  have hb1 : decide ((ln : Int) < 1) = false := by simp; omega
  have hb2 : decide ((10 : Int) < (ln : Int)) = false := by simp; omega
  go_enter Try.func6, Try.ntmps6
  go_wp2_with fail
  refine (oct_lives _).mono ?_
  rintro e w1 ⟨rfl, hb⟩
  have HBW := Lib.hid ((FB.refl w).call hb)
  clear hb
  rcases hcase with ⟨k1, k2, k3⟩ | ⟨k1, k2, k3, k4⟩ | ⟨k1, k2, k3⟩
  all_goals
    go_wp2_with fail
    repeat
      (first | refine (HOn.out _).mono ?_ | refine (HOm.out _).mono ?_)
      rintro e w1 ⟨rfl, hb⟩
      replace HBW := Lib.hid (HBW.out.call hb)
      clear hb
      go_wp2_with fail
    refine (kit_Own xs A0 c0 _ hc0 (by omega) (HBW.out.rd HR0.out)).mono ?_
    rintro e w2 ⟨A1, c1, rfl, ho, hb⟩
    have HB2 := Lib.hid (HBW.out.call hb)
    obtain ⟨k1c, k1m, k1r, -, -⟩ := Own.info ho
    clear ho hb
    go_wp2_with fail
    refine (oct_WordN 8 8 rfl (by omega) xs A1 _ c1 n _ rfl k1c k1m (by omega) k1r).mono ?_
    rintro e w3 ⟨Aw, cw, rfl, kwc, kwm, kwr, hf⟩
    have HB3 := Lib.hid (HB2.out.trans hf)
    have HRW3 := Lib.hid kwr
    clear hf kwr k1r k1c k1m
    go_wp2_with fail
    refine (kit_Own xs A0 c0 _ hc0 (by omega) (HB3.out.rd HR0.out)).mono ?_
    rintro e w4 ⟨A2, c2, rfl, ho, hb⟩
    have HRW4 := Lib.hid (FB.rd (w0 := w3) hb HRW3.out)
    have HB4 := Lib.hid (HB3.out.call hb)
    obtain ⟨k2c, k2m, k2r, -, -⟩ := Own.info ho
    clear ho hb HRW3
    go_wp2_with fail
    refine (oct_WordN 4 4 rfl (by omega) xs A2 _ c2 n _ rfl k2c k2m (by omega) k2r).mono ?_
    rintro e w5 ⟨A3, c3, rfl, k3c, k3m, k3r, hf⟩
    have HRW5 := Lib.hid (hf.rd HRW4.out)
    have HB5 := Lib.hid (HB4.out.trans hf)
    clear hf k2r k2c k2m HRW4
    go_wp2_with fail
    refine (oct_WordN 4 4 rfl (by omega) (xs ++ oword 4 n) A3 _ c3 (n >>> 32) _ (by rw [List.length_append, oword_len]) k3c k3m (by omega) k3r).mono ?_
    rintro e w6 ⟨Ah, ch, rfl, khc, khm, khr, hf⟩
    rw [List.append_assoc, ← oword_44] at khr
    have HRW6 := Lib.hid (hf.rd HRW5.out)
    have HRH6 := Lib.hid khr
    have HB6 := Lib.hid (HB5.out.trans hf)
    clear hf k3r k3c k3m HRW5 khr
    go_wp2_with fail
    refine (kit_Own xs A0 c0 _ hc0 (by omega) (HB6.out.rd HR0.out)).mono ?_
    rintro e w7 ⟨A4, c4, rfl, ho, hb⟩
    have HRW7 := Lib.hid (FB.rd (w0 := w6) hb HRW6.out)
    have HRH7 := Lib.hid (FB.rd (w0 := w6) hb HRH6.out)
    have HB7 := Lib.hid (HB6.out.call hb)
    obtain ⟨k4c, k4m, k4r, -, -⟩ := Own.info ho
    have HR4 := Lib.hid k4r
    clear ho hb HRW6 HRH6 k4r
    go_wp2
    go_loopw [9, 10] (fun v i wr => ∃ (j : Nat) (A : Option Addr) (c : Nat), j ≤ 4 ∧ i = .int .i64 j ∧ v = .slice A (xs.length + 2 * j) c ∧ xs.length + 2 * j ≤ c ∧ c ≤ maxLen ∧ Hid (Rd wr A (xs ++ oword (2 * j) n)) ∧ Hid (FB w7 wr)) (fun _ i _ => 4 - (intOf i).toNat)
    case atStart => exact ⟨0, A4, c4, by omega, rfl, rfl, k4c, k4m, Lib.hid (by simpa [oword] using HR4.out), FB.refl _⟩
    case round =>
      obtain ⟨j, A, c, hj, rfl, rfl, hcq, hcm, HRQ, HF⟩ := hrel
      by_cases hlt : j < 4
      · have hsh : nb n / 2 ^ (16 * j) = nb (n >>> (16 * j)) := nb_shrk n (16 * j)
        have hw16 : IntKind.i64.wrap (16 * (j : Int)) = 16 * (j : Int) := by rw [IntKind.wrap_i64]; omega
        have HADD := Lib.hid (show oword (2 * (j + 1)) n = oword (2 * j) n ++ oword 2 (n >>> (16 * j)) by rw [show 2 * (j + 1) = 2 * j + 2 by omega, oword_add, show 8 * (2 * j) = 16 * j by omega])
        go_wp2_with fail
        refine (oct_WordN 2 2 rfl (by omega) (xs ++ oword (2 * j) n) A (xs.length + 2 * j) c (n >>> (16 * j)) _ (by rw [List.length_append, oword_len]) hcq hcm (by omega) HRQ.out).mono ?_
        rintro e w8 ⟨Aq, cq, rfl, kqc, kqm, kqr, hf⟩
        rw [List.append_assoc, ← HADD.out] at kqr
        have HRQ2 := Lib.hid kqr
        have HF2 := Lib.hid (HF.out.trans hf)
        clear kqr hf
        go_wp2
        go_roundw
        case rel => exact ⟨j + 1, Aq, cq, by omega, by go_num, rfl, by omega, kqm, HRQ2.out, HF2.out⟩
        case measure => simp [intOf]; omega
      · obtain rfl : j = 4 := by omega
        have HRQ0 := Lib.hid (show Rd wr A (xs ++ oword 8 n) from HRQ.out)
        have HRW8 := Lib.hid (HF.out.rd HRW7.out)
        have HRH8 := Lib.hid (HF.out.rd HRH7.out)
        have HB8 := Lib.hid (HB7.out.trans HF.out)
        clear HRQ HRW7 HRH7 HF HR4
        go_wp2_with fail
        refine (kit_Own xs A0 c0 _ hc0 (by omega) (HB8.out.rd HR0.out)).mono ?_
        rintro e w9 ⟨A5, c5, rfl, ho, hb⟩
        have HF9 := Lib.hid (show FB wr w9 from hb)
        obtain ⟨k5c, k5m, k5r, -, -⟩ := Own.info ho
        clear ho hb
        go_wp2_with fail
        refine (calls_sliceN (N := xs.length + lm) (by rw [List.length_append, ← HLm.out]) (oct_Number xs A5 _ c5 m _ rfl (by omega) k5r)).mono ?_
        rintro e wa ⟨A6, c6, rfl, k6c, k6m, k6r, hf⟩
        have HFa := Lib.hid (HF9.out.trans hf)
        clear hf k5r k5c k5m
        go_wp2_with fail
        refine (calls_sliceN (N := Lx) (by rw [List.length_append, List.length_append, ← HLm.out, oblock, List.length_append, HLX.out, HLK.out]) (oct_Block (xs ++ onum m) xs A6 A0 _ c6 _ c0 _ (by rw [List.length_append, ← HLm.out]) rfl (by rw [List.length_append, ← HLm.out]; have := HLM.out; omega) (by omega) k6r (HFa.out.rd (HB8.out.rd HR0.out)))).mono ?_
        rintro e wb ⟨Ax, cx, rfl, kxc, kxm, kxr, hf⟩
        have HFb := Lib.hid (HFa.out.trans hf)
        have HRX := Lib.hid kxr
        have HBb := Lib.hid (HB8.out.trans HFb.out)
        have HRWb := Lib.hid (HFb.out.rd HRW8.out)
        clear kxr hf k6r
        have HL10 := HLM.out
        have hX : ((xs ++ onum m) ++ oblock xs).length = Lx := by rw [List.length_append, List.length_append, ← HLm.out, oblock, List.length_append, HLX.out, HLK.out]
        have hcX := cut_hi Ax cx ((xs ++ onum m) ++ oblock xs) xs.length (by rw [hX, HLX.out]; omega) (by rw [hX]; exact kxc)
        obtain ⟨Ay, hcY, hrY, -⟩ := cut_lo Ax cx ((xs ++ onum m) ++ oblock xs) (Lx - xs.length) (by omega) (by rw [hX]; exact kxc)
        have hcW := cut_hi Aw cw (xs ++ oword 8 n) xs.length (by rw [List.length_append]; omega) (by rw [List.length_append, oword_len]; exact kwc)
        have hLs : Lx - (Lx - xs.length) = xs.length := by rw [HLX.out]; omega
        have hLsub : ((Lx - xs.length : Nat) : Int) = (Lx : Int) - (xs.length : Int) := by have := HLX.out; omega
        rw [hX, hLs] at hcY
        rw [hX] at hcX
        rw [List.length_append, oword_len] at hcW
        have hdX : ((xs ++ onum m) ++ oblock xs).drop (Lx - xs.length) = xs := by
          have : Lx - xs.length = ((xs ++ onum m) ++ onum (BitVec.ofNat 64 xs.length)).length := by rw [List.length_append, List.length_append, ← HLm.out, ← HLK.out, HLX.out]; omega
          rw [oblock, ← List.append_assoc, this, List.drop_left]
        have htX : ((xs ++ onum m) ++ oblock xs).take xs.length = xs := by rw [List.append_assoc, List.take_left]
        have htW : (xs ++ oword 8 n).take xs.length = xs := List.take_left
        have hRxb : ∀ W, Rd W Ax ((xs ++ onum m) ++ oblock xs) → Rd W Ax xs := fun W h => by have := h.take xs.length; rw [htX] at this; exact this
        have hRyb : ∀ W, Rd W Ax ((xs ++ onum m) ++ oblock xs) → Rd W Ay xs := fun W h => by have := hrY W h; rw [hdX] at this; exact this
        have hRwb : ∀ W, Rd W Aw (xs ++ oword 8 n) → Rd W Aw xs := fun W h => by have := h.take xs.length; rw [htW] at this; exact this
        have hSq : ∀ W A c, Rd W A (xs ++ oword 8 n) → (convert 23 9 (.slice A (xs.length + 8) c)).run Try.prog W = .ok (.string (sb (xs ++ oword 8 n))) W := fun W A c h => by
          have := run_string c h
          rw [List.length_append, oword_len] at this; exact this
        have hSum : ((xs.length : Int) + (lm : Int)) + ((lk : Int) + (xs.length : Int)) = (Lx : Int) := by have := HLX.out; omega
        have hSum2 : ((2 : Int) * (xs.length : Int) + (lm : Int)) + (lk : Int) = (Lx : Int) := by have := HLX.out; omega
        replace hcY : ∀ W, (Instr.slice 23 (.slice Ax Lx cx) (some (.int .i64 ((Lx : Int) - (xs.length : Int)))) none none).run Try.prog W = .ok (.slice Ay xs.length (cx - (Lx - xs.length))) W := by rw [← hLsub]; exact hcY
        have HQ := Lib.hid (hSq _ A c HRQ0.out)
        have hbX : (Lx : Int) ≤ 7000 := by have := HLX.out; omega
        have hbX0 : (xs.length : Int) ≤ (Lx : Int) := by have := HLX.out; omega
        have hbm : (lm : Int) ≤ 10 := by omega
        have hbk : (lk : Int) ≤ 10 := by omega
        have hb0 : (xs.length : Int) ≤ 3000 := by omega
        have HWA := Lib.hid (show IntKind.i64.wrap ((xs.length : Int) + 8) = (xs.length : Int) + 8 by rw [IntKind.wrap_i64]; omega)
        have HWB := Lib.hid (show IntKind.i64.wrap (2 * (xs.length : Int)) = 2 * (xs.length : Int) by rw [IntKind.wrap_i64]; omega)
        have HWC := Lib.hid (show IntKind.i64.wrap (2 * (xs.length : Int) + (lm : Int)) = 2 * (xs.length : Int) + (lm : Int) by rw [IntKind.wrap_i64]; omega)
        have HWD := Lib.hid (show IntKind.i64.wrap (Lx : Int) = (Lx : Int) by rw [IntKind.wrap_i64]; omega)
        have HWE := Lib.hid (show IntKind.i64.wrap ((Lx : Int) - (xs.length : Int)) = (Lx : Int) - (xs.length : Int) by rw [IntKind.wrap_i64]; omega)
        have HWF := Lib.hid (show IntKind.u64.wrap (xs.length : Int) = (xs.length : Int) by rw [IntKind.wrap_u64]; omega)
        have HRQb := Lib.hid (HFb.out.rd HRQ0.out)
        have HRHb := Lib.hid (HFb.out.rd HRH8.out)
        have HRBb := Lib.hid (HBb.out.rd HR0.out)
        clear HQ HRQ0 HRH8 HRW8 HL10 hX hLs hLsub hdX htX htW
        obtain ⟨W0, hW0⟩ : ∃ W0 : World, W0 = wb := ⟨_, rfl⟩
        subst hW0
        go_wp2_with fail
        refine region_sch (E := FB) ((0, true) :: (1, true) :: (2, true) :: (3, true) :: (4, true) :: (5, true) :: (6, true) :: (7, true) :: (8, true) :: (9, true) :: (10, true) :: (11, true) :: (12, true) :: (13, true) :: (14, true) :: (15, true) :: (16, true) :: (17, true) :: (18, true) :: (19, true) :: (20, true) :: (21, true) :: (22, true) :: (23, true) :: (24, true) :: (25, true) :: (26, true) :: (27, true) :: (28, true) :: (29, true) :: (30, true) :: (31, true) :: (32, true) :: (33, true) :: (34, true) :: (35, true) :: (36, true) :: (39, true) :: (40, true) :: (41, true) :: (37, false) :: (38, true) :: (42, false) :: (43, true) :: (44, true) :: (45, true) :: (46, true) :: (47, true) :: (48, true) :: (49, true) :: (50, true) :: (51, true) :: (52, true) :: (53, true) :: (54, true) :: (55, true) :: (56, true) :: (57, true) :: (58, true) :: (59, true) :: (60, true) :: (61, true) :: (62, true) :: (63, true) :: (64, true) :: (65, true) :: (66, true) :: (67, true) :: (68, true) :: (69, true) :: []) (by kernel_rfl) FB.refl fb_trans (fun _ _ d _ _ h => by cases d <;> exact h) (by kernel_rfl) ?_
        intro ops hops0
        have hops := Lib.hid hops0
        clear hops0
        have HF : FB W0 W0.drew := (FB.refl _).drew
        generalize W0.drew = wF at *
        repeat (refine sch_take (o := ?_) (v := ?_) (a' := ?_) (at_of hops.out ?_) ?_ (fun W hW => ?_) ?_ ?_; rotate_left 3; (focus (simp only [List.getElem?_toArray, List.getElem?_cons_zero, List.getElem?_cons_succ]; rfl)); (focus (rw [hops.out]; rfl)); (focus (have q1 := hSq W Aw cw (FB.rd (HF.trans hW) HRWb.out); have q2 := hSq W Ah ch (FB.rd (HF.trans hW) HRHb.out); have q3 := hSq W A c (FB.rd (HF.trans hW) HRQb.out); have q4 := run_string c0 (FB.rd (HF.trans hW) HRBb.out); have q5 := run_string cw (hRwb W (FB.rd (HF.trans hW) HRWb.out)); have q6 := hcW W; have q7 := HWA.out; have q8 := HWB.out; have q9 := HWF.out; go_simp; with_reducible rfl)); (focus (simp only [Act.put, List.setIfInBounds_toArray, List.set_cons_zero, List.set_cons_succ]; rfl)))
        (refine sch_call (o := ?_) (f := ?_) (args := ?_) (at_of hops.out ?_) ?_ ?_ ?_; rotate_left 3; (focus (simp only [List.getElem?_toArray, List.getElem?_cons_zero, List.getElem?_cons_succ]; rfl)); (focus (rw [hops.out]; rfl)); (focus (go_simp; constructor <;> with_reducible rfl)); (first | ((with_reducible refine (HOm.out _).mono ?_); rintro e w' ⟨rfl, hb⟩; refine ⟨_, rfl, hb, ?_⟩; intro a' ha'; simp only [Act.put, List.setIfInBounds_toArray, List.set_cons_zero, List.set_cons_succ] at ha'; subst ha'; replace HF := HF.call hb; clear hb)))
        repeat (refine sch_take (o := ?_) (v := ?_) (a' := ?_) (at_of hops.out ?_) ?_ (fun W hW => ?_) ?_ ?_; rotate_left 3; (focus (simp only [List.getElem?_toArray, List.getElem?_cons_zero, List.getElem?_cons_succ]; rfl)); (focus (rw [hops.out]; rfl)); (focus (have q7 := HWC.out; have q9 := HWF.out; go_simp; with_reducible rfl)); (focus (simp only [Act.put, List.setIfInBounds_toArray, List.set_cons_zero, List.set_cons_succ]; rfl)))
        (refine sch_call (o := ?_) (f := ?_) (args := ?_) (at_of hops.out ?_) ?_ ?_ ?_; rotate_left 3; (focus (simp only [List.getElem?_toArray, List.getElem?_cons_zero, List.getElem?_cons_succ]; rfl)); (focus (rw [hops.out]; rfl)); (focus (go_simp; constructor <;> with_reducible rfl)); (first | ((with_reducible refine (HOk.out _).mono ?_); rintro e w' ⟨rfl, hb⟩; refine ⟨_, rfl, hb, ?_⟩; intro a' ha'; simp only [Act.put, List.setIfInBounds_toArray, List.set_cons_zero, List.set_cons_succ] at ha'; subst ha'; replace HF := HF.call hb; clear hb)))
        repeat (refine sch_take (o := ?_) (v := ?_) (a' := ?_) (at_of hops.out ?_) ?_ (fun W hW => ?_) ?_ ?_; rotate_left 3; (focus (simp only [List.getElem?_toArray, List.getElem?_cons_zero, List.getElem?_cons_succ]; rfl)); (focus (rw [hops.out]; rfl)); (focus (have q1 := hcX W; have q2 := hcY W; have q3 := run_string cx (hRxb W (FB.rd (HF.trans hW) HRX.out)); have q4 := run_string c0 (FB.rd (HF.trans hW) HRBb.out); have q5 := run_string (cx - (Lx - xs.length)) (hRyb W (FB.rd (HF.trans hW) HRX.out)); have q6 := HWD.out; have q7 := HWE.out; go_simp; with_reducible rfl)); (focus (simp only [Act.put, List.setIfInBounds_toArray, List.set_cons_zero, List.set_cons_succ]; rfl)))
        refine sch_done ?_
        have HFF := Lib.hid (HBb.out.trans HF)
        clear hops HF
        go_wp2
        go_ret
        exact ⟨by simp, HFF.out⟩
set_option maxRecDepth 100000 in
set_option maxHeartbeats 400000 in
theorem octetOrder_much (n m : BitVec 64) (A0 : Option Addr) (c0 : Nat) (xs : List Byte) (w : World) (h : 3000 < xs.length) :
    Calls Try.prog 6 #[.int .u64 (nb n), .int .u64 (nb m), .slice A0 xs.length c0] w fun e w' => e = .returned (.bool true) ∧ Below w.heap.size w w' := by
  go_enter Try.func6, Try.ntmps6
  go_wp2_with fail
  refine (oct_lives _).mono ?_
  rintro e w1 ⟨rfl, hb⟩
  have HBW := Lib.hid ((FB.refl w).call hb)
  clear hb
  go_wp2
  go_ret
  exact ⟨rfl, HBW.out⟩
theorem octetOrder_walk (n m : BitVec 64) (A0 : Option Addr) (c0 : Nat) (xs : List Byte) (w : World) (hc0 : xs.length ≤ c0) (hm0 : c0 ≤ maxLen) (hr0 : Rd w A0 xs) :
    Calls Try.prog 6 #[.int .u64 (nb n), .int .u64 (nb m), .slice A0 xs.length c0] w fun e w' => e = .returned (.bool true) ∧ Below w.heap.size w w' := by
  by_cases h : xs.length ≤ 3000
  · exact octetOrder_few n m A0 c0 xs w h hc0 hm0 hr0
  · exact octetOrder_much n m A0 c0 xs w (by omega)
end Go.Proofs.Ytegmpejcolmnoaa
