/- The walk of RecordFits. -/
import Derived.Test.YtjhgnohofcahbaaRecP
import Derived.Test.YtjhgnohofcahbaaRecordOrderW
import Derived.Test.YtjhgnohofcahbaaRecordNamesW
import Derived.Test.YtjhgnohofcahbaaKit
set_option linter.unusedVariables false
set_option linter.unusedSimpArgs false
namespace Go.Proofs.Ytjhgnohofcahbaa
open Go.ChangeShapes Go.WideShapes Go.ChangeAt Go.RowKit
attribute [local go_sem] nb_nonneg nb_lt64 nb_lt8

theorem rec_Read_raw {ks vs : List Byte} {o s : BitVec 64} (h : recMay ks vs o s) (A : Option Addr) (n c : Nat) (w : World) (hn : n = (recRaw ks o s vs).length) (hr : Rd w A (recRaw ks o s vs)) (hv : vs.length ≤ 100000000000) :
    Calls Try.prog 13 #[.slice A n c] w (RecRes ks vs (nb o) (nb s) w) := by
  obtain ⟨hok, e1, e2, e3, e4⟩ := raw_read h
  have := recMay_facts h
  refine (rec_Read _ A n c w hn (by have := recRaw_len ks o s vs; omega) hr).mono fun e w' h => ?_
  rcases h with ⟨-, h⟩ | ⟨h, -⟩
  · rw [e1, e2, e3, e4] at h; exact h
  · exact absurd hok h
theorem rec_Read_not {xs : List Byte} (h : ¬ rdOk xs) (A : Option Addr) (n c : Nat) (w : World) (hn : n = xs.length) (hl : xs.length ≤ 100000000000000) (hr : Rd w A xs) :
    Calls Try.prog 13 #[.slice A n c] w fun e w' => e = .returned (.tuple #[rec0, .int .i64 4]) ∧ FB w w' := by
  refine (rec_Read _ A n c w hn hl hr).mono fun e w' hh => ?_
  rcases hh with ⟨hh, -⟩ | ⟨-, hh⟩
  · exact absurd hh h
  · exact hh
theorem onum_mono' (k : Nat) : ∀ (n m : BitVec 64), n.toNat ≤ k → n ≤ m → (onum n).length ≤ (onum m).length := by
  induction k using Nat.strongRecOn with
  | ind k ih =>
    intro n m hk h
    have hnm : n.toNat ≤ m.toNat := by simpa [BitVec.le_def] using h
    by_cases hn : 128#64 ≤ n
    · have h1 : 128 ≤ n.toNat := by simpa [BitVec.le_def] using hn
      have hm : 128#64 ≤ m := by rw [BitVec.le_def]; have : (128#64).toNat = 128 := rfl; omega
      rw [onum_ge hn, onum_ge hm]
      have := ih (n >>> 7).toNat (by rw [BitVec.toNat_ushiftRight, Nat.shiftRight_eq_div_pow]; omega) (n >>> 7) (m >>> 7) (Nat.le_refl _) (by
        rw [BitVec.le_def, BitVec.toNat_ushiftRight, BitVec.toNat_ushiftRight, Nat.shiftRight_eq_div_pow, Nat.shiftRight_eq_div_pow]
        exact Nat.div_le_div_right hnm)
      simp only [List.length_cons]; omega
    · rw [onum_lt hn]
      exact onum_len_pos m
theorem fits_take (ks vs : List Byte) (k : Nat) (h : recFits ks vs = true) : recFits ks (vs.take k) = true := by
  unfold recFits at *
  simp only [Bool.and_eq_true, decide_eq_true_eq] at *
  rw [raw_len] at *
  have hl : (vs.take k).length ≤ vs.length := by rw [List.length_take]; omega
  have := onum_mono' _ (BitVec.ofNat 64 (vs.take k).length) (BitVec.ofNat 64 vs.length) (Nat.le_refl _) (by rw [BitVec.le_def, BitVec.toNat_ofNat, BitVec.toNat_ofNat, Nat.mod_eq_of_lt (by omega), Nat.mod_eq_of_lt (by omega)]; exact hl)
  omega
/-- How many bytes a number has. -/
theorem onum_div (n : Nat) (h : 128 ≤ n) (hn : n ≤ 9223372036854775807) : (onum (BitVec.ofNat 64 n)).length = (onum (BitVec.ofNat 64 (n / 128))).length + 1 := by
  have e : (BitVec.ofNat 64 n) >>> 7 = BitVec.ofNat 64 (n / 128) := by
    apply BitVec.eq_of_toNat_eq
    rw [BitVec.toNat_ushiftRight, Nat.shiftRight_eq_div_pow, BitVec.toNat_ofNat, BitVec.toNat_ofNat]; omega
  have e2 : (BitVec.ofNat 64 n).toNat = n := by rw [BitVec.toNat_ofNat]; omega
  rw [onum_ge (by rw [BitVec.le_def, e2]; exact h), e]; rfl
theorem onum_small (n : Nat) (h : n < 128) : (onum (BitVec.ofNat 64 n)).length = 1 := by
  have e2 : (BitVec.ofNat 64 n).toNat = n := by rw [BitVec.toNat_ofNat]; omega
  rw [onum_lt (by rw [BitVec.le_def, e2]; exact fun h' => by have : (128#64).toNat = 128 := rfl; omega)]; rfl
set_option maxRecDepth 100000 in
set_option maxHeartbeats 400000 in
theorem fits_size (z : Int) (n : Nat) (hz : z = n) (hn : n ≤ 9223372036854775807) (w : World) :
    Calls Try.prog 32 #[.int .i64 z] w fun e w' => e = .returned (.int .i64 ((onum (BitVec.ofNat 64 n)).length : Nat)) ∧ w = w' := by
  subst hz
  have HL := Lib.hid (onum_len10 (BitVec.ofNat 64 n))
  go_enter Try.func32, Try.ntmps32
  go_wp2
  go_loop [3, 0] (fun k m => ∃ (j i : Nat), k = .int .i64 j ∧ m = .int .i64 i ∧ i ≤ n ∧ 1 ≤ j ∧ j ≤ 10 ∧ Hid (j + (onum (BitVec.ofNat 64 i)).length = 1 + (onum (BitVec.ofNat 64 n)).length)) (fun _ m => (intOf m).toNat)
  case atStart => exact ⟨1, n, rfl, rfl, Nat.le_refl _, by omega, by omega, rfl⟩
  case round =>
    obtain ⟨j, i, rfl, rfl, hi, hj, hj10, HE⟩ := hrel
    by_cases hge : 128 ≤ i
    · have hd := onum_div i hge (by omega)
      have hp := onum_len_pos (BitVec.ofNat 64 (i / 128))
      have hj9 : j + 1 ≤ 10 := by have := HE.out; have := HL.out; omega
      have hge' : (128 : Int) ≤ (i : Int) := by omega
      have hq : (i : Int).tdiv 128 = ((i / 128 : Nat) : Int) := by rw [Int.tdiv_eq_ediv_of_nonneg (by omega)]; omega
      have HE2 := Lib.hid (show j + 1 + (onum (BitVec.ofNat 64 (i / 128))).length = 1 + (onum (BitVec.ofNat 64 n)).length by have := HE.out; omega)
      clear hd hp HE
      go_wp2
      go_round
      case rel => exact ⟨j + 1, i / 128, by go_num, by first | rfl | (rw [hq]), by omega, by omega, hj9, HE2.out⟩
      case measure => simp [intOf]; omega
    · have hlt : (i : Int) < 128 := by omega
      have hj' : (j : Int) = ((onum (BitVec.ofNat 64 n)).length : Nat) := by have := HE.out; rw [onum_small i (by omega)] at this; omega
      have HJ := Lib.hid hj'
      clear hj'
      go_wp2
      go_ret
      exact ⟨by rw [← HJ.out]; rfl, rfl⟩
set_option maxRecDepth 100000 in
set_option maxHeartbeats 4000000 in
theorem recordFits_few (A0 : Option Addr) (c0 : Nat) (ks : List Byte) (A1 : Option Addr) (c1 : Nat) (vs : List Byte) (over less : Int) (w : World) (h1 : 1 ≤ ks.length) (h2 : ks.length ≤ 512) (h3 : vs.length ≤ 5000)
    (hc0 : ks.length ≤ c0) (hm0 : c0 ≤ maxLen) (hr0 : Rd w A0 ks) (hc1 : vs.length ≤ c1) (hm1 : c1 ≤ maxLen) (hr1 : Rd w A1 vs) :
    Calls Try.prog 8 #[.slice A0 ks.length c0, .slice A1 vs.length c1, .int .i64 over, .int .i64 less] w fun e w' => e = .returned (.bool true) ∧ Below w.heap.size w w' := by
  have HR0 := Lib.hid hr0
  have HR1 := Lib.hid hr1
  have HFT := Lib.hid (fun W (k0 : Rd W A0 ks) (k1 : Rd W A1 vs) => rec_Fits ks vs A0 A1 _ c0 _ c1 W rfl rfl k0 k1)
  have hcap := And.intro hc0 hm0
  have HCAP := Lib.hid hcap
  have HC1 := Lib.hid hc1
  have hpk : ∃ kp : Nat, pick less ((vs.length : Int) + 1) = (kp : Int) ∧ kp ≤ vs.length := by
    refine ⟨(pick less ((vs.length : Int) + 1)).toNat, ?_, ?_⟩
    all_goals
      rw [show pick less ((vs.length : Int) + 1) = less % ((vs.length : Int) + 1) from by unfold pick; rw [if_neg (by omega)]]
      have := Int.emod_nonneg less (show (vs.length : Int) + 1 ≠ 0 by omega)
      have := Int.emod_lt_of_pos less (show 0 < (vs.length : Int) + 1 by omega)
      omega
  obtain ⟨kp, hkp, hkl⟩ := hpk
  have HP1 := Lib.hid (fun W => show Calls Try.prog 19 #[.int .i64 less, .int .i64 ((vs.length : Int) + 1)] W fun e w' => e = .returned (.int .i64 (kp : Int)) ∧ W = w' from by rw [← hkp]; exact kit_Pick less _ W (by omega) (by omega))
  have hpo : ∃ po : Nat, pick over 65536 = (po : Int) ∧ po < 65536 := by
    refine ⟨(pick over 65536).toNat, ?_, ?_⟩
    all_goals
      rw [show pick over 65536 = over % 65536 from by unfold pick; rw [if_neg (by omega)]]
      omega
  obtain ⟨po, hpo1, hpo2⟩ := hpo
  have HP2 := Lib.hid (fun W => show Calls Try.prog 19 #[.int .i64 over, .int .i64 65536] W fun e w' => e = .returned (.int .i64 (po : Int)) ∧ W = w' from by rw [← hpo1]; exact kit_Pick over _ W (by omega) (by omega))
  have hcut := cut_hi A1 c1 vs kp hkl hc1
  have HSH := Lib.hid (fun W (k0 : Rd W A0 ks) (k1 : Rd W A1 vs) => rec_Fits ks (vs.take kp) A0 A1 _ c0 kp c1 W rfl (by rw [List.length_take]; omega) k0 (k1.take kp))
  have HTK := Lib.hid (fits_take ks vs kp)
  have HS1 := Lib.hid (fun W => fits_size (ks.length : Int) ks.length rfl (by omega) W)
  have HS3 := Lib.hid (fun W => fits_size (vs.length : Int) vs.length rfl (by omega) W)
  have hl1 := onum_len10 (BitVec.ofNat 64 ks.length)
  have hl3 := onum_len10 (BitVec.ofNat 64 vs.length)
  have hnv : nb (BitVec.ofNat 64 vs.length) = (vs.length : Int) := len64 _ (by omega)
  have HH0 := Lib.hid (fun W (k0 : Rd W A0 ks) => rec_Hash ks A0 _ c0 W rfl hc0 hm0 (by omega) k0)
  have HMK := Lib.hid (fun (ov : Int) (hok : okMake ks vs ov) W (k0 : Rd W A0 ks) (k1 : Rd W A1 vs) => rec_Make_ok ks vs ov A0 A1 _ c0 _ c1 W rfl rfl k0 k1 hok)
  have HK12 := Lib.hid (And.intro h1 h2)
  have hov : ∃ (ov : Nat) (vo : List Byte), (recFits ks vs = true ∧ ov = 0 ∧ vo = vs ∨ recFits ks vs = false ∧ ov = 1 + po ∧ vo = []) := by
    cases recFits ks vs
    · exact ⟨1 + po, [], .inr ⟨rfl, rfl, rfl⟩⟩
    · exact ⟨0, vs, .inl ⟨rfl, rfl, rfl⟩⟩
  obtain ⟨ov, vo, hov⟩ := hov
  have hov65 : ov ≤ 65536 := by omega
  have hno : nb (BitVec.ofNat 64 ov) = (ov : Int) := len64 _ (by omega)
  have HS2 := Lib.hid (fun W => fits_size (ov : Int) ov rfl (by omega) W)
  have hl2 := onum_len10 (BitVec.ofNat 64 ov)
  have hvo : (if (ov : Int) = 0 then vs else []) = vo := by
    rcases hov with ⟨-, h, h'⟩ | ⟨-, h, h'⟩
    · rw [if_pos (by omega), h']
    · rw [if_neg (by omega), h']
  have hok : okMake ks vs (ov : Int) := ⟨⟨h1, h2⟩, by omega, by omega, by omega, by
    rcases hov with ⟨h, h', -⟩ | ⟨h, h', -⟩
    · rw [h, h']; rfl
    · rw [h, h']; simp; omega⟩
  have hmay : recMay ks vo (BitVec.ofNat 64 ov) (BitVec.ofNat 64 vs.length) := by
    unfold recMay rcheck
    rw [hno, hnv, if_neg (by omega)]
    rcases hov with ⟨h, h', h''⟩ | ⟨h, h', h''⟩
    · rw [if_pos (by omega), h'', if_pos rfl]
    · rw [if_neg (by omega), h'']; rfl
  have hvol : vo.length ≤ 5000 := by
    rcases hov with ⟨-, -, h⟩ | ⟨-, -, h⟩
    · rw [h]; exact h3
    · rw [h]; simp
  have HRL := Lib.hid (raw_len ks vo (BitVec.ofNat 64 ov) (BitVec.ofNat 64 vs.length))
  have HMAY := Lib.hid hmay
  have HOK := Lib.hid hok
  have HVO := Lib.hid hvo
  have HNO := Lib.hid hno
  have HNV := Lib.hid hnv
  have HBY := Lib.hid (fun (A : Option Addr) (c : Nat) (B : Option Addr) (d : Nat) W (k0 : Rd W A ks) (k1 : Rd W B vo) => show Calls Try.prog 15 #[.agg #[.slice A ks.length c, .int .i64 (ov : Int), .int .i64 (vs.length : Int), .slice B vo.length d]] W _ from rec_Bytes_ok A _ c (BitVec.ofNat 64 ov) (BitVec.ofNat 64 vs.length) (ov : Int) (vs.length : Int) B _ d ks vo W rfl rfl hno.symm hnv.symm k0 k1 (by have := HMAY.out; unfold recMay at this; rw [HNO.out, HNV.out] at this; exact this))
  have HRDR := Lib.hid (fun (A : Option Addr) (n c : Nat) W (hn : n = (recRaw ks (BitVec.ofNat 64 ov) (BitVec.ofNat 64 vs.length) vo).length) (k0 : Rd W A (recRaw ks (BitVec.ofNat 64 ov) (BitVec.ofNat 64 vs.length) vo)) => rec_Read_raw HMAY.out A n c W hn k0 (by omega))
  rw [hno, hnv] at HRDR
  replace HMK := Lib.hid (HMK.out (ov : Int) HOK.out)
  rw [hvo] at HMK
  obtain ⟨OV, hOV⟩ : ∃ OV : Int, OV = (ov : Int) := ⟨_, rfl⟩
  rw [← hOV] at HRDR HMK HBY HS2
  generalize recRaw ks (BitVec.ofNat 64 ov) (BitVec.ofNat 64 vs.length) vo = raw at *
  generalize (onum (BitVec.ofNat 64 ks.length)).length = l1 at *
  generalize (onum (BitVec.ofNat 64 ov)).length = l2 at *
  generalize (onum (BitVec.ofNat 64 vs.length)).length = l3 at *
  clear hno hnv hvo hmay hok hcap hkp hpo1 hr0 hr1
  go_enter Try.func8, Try.ntmps8
  go_wp2_with fail
  refine (rec_lives _).mono ?_
  rintro e w1 ⟨rfl, hb⟩
  have HF1 := Lib.hid hb
  clear hb
  go_wp2_with fail
  refine (HFT.out _ (HF1.out.rd HR0.out) (HF1.out.rd HR1.out)).mono ?_
  rintro e w2 ⟨rfl, hf⟩
  have HF2 := Lib.hid (HF1.out.trans hf)
  clear hf
  go_wp2_with fail
  refine (HP1.out _).mono ?_
  rintro e w3 ⟨rfl, rfl⟩
  have hrl := HRL.out
  have hrl2 : (raw.length : Int) = (l1 : Int) + (ks.length : Int) + (l2 : Int) + (l3 : Int) + (vo.length : Int) := by omega
  have hwa : IntKind.i64.wrap ((l1 : Int) + (ks.length : Int)) = (l1 : Int) + (ks.length : Int) := by rw [IntKind.wrap_i64]; omega
  have hwb : IntKind.i64.wrap ((l1 : Int) + (ks.length : Int) + (l2 : Int)) = (l1 : Int) + (ks.length : Int) + (l2 : Int) := by rw [IntKind.wrap_i64]; omega
  have hwc : IntKind.i64.wrap ((l1 : Int) + (ks.length : Int) + (l2 : Int) + (l3 : Int)) = (l1 : Int) + (ks.length : Int) + (l2 : Int) + (l3 : Int) := by rw [IntKind.wrap_i64]; omega
  have hwd : IntKind.i64.wrap ((l1 : Int) + (ks.length : Int) + (l2 : Int) + (l3 : Int) + (vo.length : Int)) = (l1 : Int) + (ks.length : Int) + (l2 : Int) + (l3 : Int) + (vo.length : Int) := by rw [IntKind.wrap_i64]; omega
  clear hrl
  rcases hov with ⟨hfit, hov0, hvo0⟩ | ⟨hfit, hov0, hvo0⟩
  · have hsh := HTK.out hfit
    rw [hsh] at HSH
    rw [hfit]
    obtain rfl : OV = 0 := by omega
    subst hvo0
    clear hOV hov0 hfit hsh
    go_wp2_with fail
    refine (HSH.out _ (HF2.out.rd HR0.out) (HF2.out.rd HR1.out)).mono ?_
    rintro e w3 ⟨rfl, hf⟩
    have HF3 := Lib.hid (HF2.out.trans hf)
    clear hf hcut
    go_wp2_with fail
    refine (HP2.out _).mono ?_
    rintro e w4 ⟨rfl, rfl⟩
    have HF4 := Lib.hid HF3.out
    go_wp2_with fail
    refine (HMK.out _ (HF4.out.rd HR0.out) (HF4.out.rd HR1.out)).mono ?_
    rintro e w5 ⟨A5, c5, B5, d5, rfl, hk5, hv5, hf5, -, -⟩
    unfold recV
    have HF5 := Lib.hid (HF4.out.trans hf5)
    have HK5 := Lib.hid hk5
    have HV5 := Lib.hid hv5
    clear hk5 hv5 hf5
    try rw [List.length_nil]
    go_wp2_with fail
    refine (HBY.out _ _ _ _ _ (HK5.out.alloc _) (HV5.out.alloc _)).mono ?_
    rintro e w6 ⟨v6, rfl, ho, hf⟩
    obtain ⟨A6, c6, rfl, -, -, hr6, -⟩ := Own.form ho
    have HF6 := Lib.hid ((HF5.out.alloc _).trans hf)
    have HR6 := Lib.hid hr6
    clear ho hf hr6
    go_wp2_with fail
    refine (HS1.out _).mono ?_
    rintro e w7 ⟨rfl, rfl⟩
    go_wp2_with fail
    refine (HS2.out _).mono ?_
    rintro e w7 ⟨rfl, rfl⟩
    go_wp2_with fail
    refine (HS3.out _).mono ?_
    rintro e w7 ⟨rfl, rfl⟩
    go_wp2_with fail
    refine (HRDR.out A6 _ c6 _ rfl HR6.out).mono ?_
    rintro e w8 ⟨A8, c8, B8, d8, rfl, hk8, hv8, hf8, hc8, hm8, -⟩
    unfold recV
    have HF8 := Lib.hid (HF6.out.trans hf8)
    have HK8 := Lib.hid hk8
    have HCM8 := Lib.hid (And.intro hc8 hm8)
    have hs8 := fun o => run_string c8 (HK8.out.alloc o)
    have hs0 := fun o => run_string c0 ((HF8.out.rd HR0.out).alloc o)
    clear hk8 hv8 hf8 hc8 hm8
    go_wp2_with fail
    refine (rec_Hash ks A8 _ c8 _ rfl HCM8.out.1 HCM8.out.2 (by omega) (HK8.out.alloc _)).mono ?_
    rintro e w9 ⟨rfl, hf⟩
    have HF9 := Lib.hid ((HF8.out.alloc _).trans hf)
    clear hf hs8 hs0
    go_wp2_with fail
    refine (HH0.out _ (HF9.out.rd HR0.out)).mono ?_
    rintro e w10 ⟨rfl, hf⟩
    have HF10 := Lib.hid (HF9.out.trans hf)
    clear hf
    go_wp2
    go_ret
    exact ⟨rfl, HF10.out⟩
  · rw [hfit]
    obtain rfl : OV = 1 + (po : Int) := by omega
    subst hvo0
    rw [List.length_nil] at hrl2
    rw [List.length_nil] at HBY
    have hrl3 : (raw.length : Int) = (l1 : Int) + (ks.length : Int) + (l2 : Int) + (l3 : Int) := by omega
    clear hOV hov0 hfit hrl2 hwd
    go_wp2_with fail
    refine (HP2.out _).mono ?_
    rintro e w4 ⟨rfl, rfl⟩
    have HF4 := Lib.hid HF2.out
    go_wp2_with fail
    refine (HMK.out _ (HF4.out.rd HR0.out) (HF4.out.rd HR1.out)).mono ?_
    rintro e w5 ⟨A5, c5, B5, d5, rfl, hk5, hv5, hf5, -, -⟩
    unfold recV
    have HF5 := Lib.hid (HF4.out.trans hf5)
    have HK5 := Lib.hid hk5
    have HV5 := Lib.hid hv5
    clear hk5 hv5 hf5
    try rw [List.length_nil]
    go_wp2_with fail
    refine (HBY.out _ _ _ _ _ (HK5.out.alloc _) (HV5.out.alloc _)).mono ?_
    rintro e w6 ⟨v6, rfl, ho, hf⟩
    obtain ⟨A6, c6, rfl, -, -, hr6, -⟩ := Own.form ho
    have HF6 := Lib.hid ((HF5.out.alloc _).trans hf)
    have HR6 := Lib.hid hr6
    clear ho hf hr6
    go_wp2_with fail
    refine (HS1.out _).mono ?_
    rintro e w7 ⟨rfl, rfl⟩
    go_wp2_with fail
    refine (HS2.out _).mono ?_
    rintro e w7 ⟨rfl, rfl⟩
    go_wp2_with fail
    refine (HS3.out _).mono ?_
    rintro e w7 ⟨rfl, rfl⟩
    go_wp2_with fail
    refine (HRDR.out A6 _ c6 _ rfl HR6.out).mono ?_
    rintro e w8 ⟨A8, c8, B8, d8, rfl, hk8, hv8, hf8, hc8, hm8, -⟩
    unfold recV
    have HF8 := Lib.hid (HF6.out.trans hf8)
    have HK8 := Lib.hid hk8
    have HCM8 := Lib.hid (And.intro hc8 hm8)
    have hs8 := fun o => run_string c8 (HK8.out.alloc o)
    have hs0 := fun o => run_string c0 ((HF8.out.rd HR0.out).alloc o)
    clear hk8 hv8 hf8 hc8 hm8
    go_wp2_with fail
    refine (rec_Hash ks A8 _ c8 _ rfl HCM8.out.1 HCM8.out.2 (by omega) (HK8.out.alloc _)).mono ?_
    rintro e w9 ⟨rfl, hf⟩
    have HF9 := Lib.hid ((HF8.out.alloc _).trans hf)
    clear hf hs8 hs0
    go_wp2_with fail
    refine (HH0.out _ (HF9.out.rd HR0.out)).mono ?_
    rintro e w10 ⟨rfl, hf⟩
    have HF10 := Lib.hid (HF9.out.trans hf)
    clear hf
    go_wp2
    go_ret
    exact ⟨rfl, HF10.out⟩
set_option maxRecDepth 100000 in
set_option maxHeartbeats 1000000 in
theorem recordFits_much (A0 : Option Addr) (c0 : Nat) (ks : List Byte) (A1 : Option Addr) (c1 : Nat) (vs : List Byte) (over less : Int) (w : World) (h : ks.length < 1 ∨ (1 ≤ ks.length ∧ 512 < ks.length) ∨ (1 ≤ ks.length ∧ ks.length ≤ 512 ∧ 5000 < vs.length)) (hr0 : Rd w A0 ks) (hr1 : Rd w A1 vs) :
    Calls Try.prog 8 #[.slice A0 ks.length c0, .slice A1 vs.length c1, .int .i64 over, .int .i64 less] w fun e w' => e = .returned (.bool true) ∧ Below w.heap.size w w' := by
  have HR0 := Lib.hid hr0
  have HR1 := Lib.hid hr1
  have HFT := Lib.hid (fun W (k0 : Rd W A0 ks) (k1 : Rd W A1 vs) => rec_Fits ks vs A0 A1 _ c0 _ c1 W rfl rfl k0 k1)
  have hbad : ks.length < 1 ∨ 512 < ks.length → recFits ks vs = false := fun h => by
    unfold recFits
    rw [decide_eq_false (by omega)]; rfl
  clear hr0 hr1
  rcases h with h | ⟨h, h'⟩ | ⟨h, h', h''⟩
  · rw [hbad (.inl h)] at HFT
    clear hbad
    go_enter Try.func8, Try.ntmps8
    go_wp2_with fail
    refine (rec_lives _).mono ?_
    rintro e w1 ⟨rfl, hb⟩
    have HF1 := Lib.hid hb
    clear hb
    go_wp2_with fail
    refine (HFT.out _ (HF1.out.rd HR0.out) (HF1.out.rd HR1.out)).mono ?_
    rintro e w2 ⟨rfl, hf⟩
    have HF2 := Lib.hid (HF1.out.trans hf)
    clear hf
    go_wp2
    go_ret
    exact ⟨rfl, HF2.out⟩
  · rw [hbad (.inr h')] at HFT
    clear hbad
    go_enter Try.func8, Try.ntmps8
    go_wp2_with fail
    refine (rec_lives _).mono ?_
    rintro e w1 ⟨rfl, hb⟩
    have HF1 := Lib.hid hb
    clear hb
    go_wp2_with fail
    refine (HFT.out _ (HF1.out.rd HR0.out) (HF1.out.rd HR1.out)).mono ?_
    rintro e w2 ⟨rfl, hf⟩
    have HF2 := Lib.hid (HF1.out.trans hf)
    clear hf
    go_wp2
    go_ret
    exact ⟨rfl, HF2.out⟩
  · clear hbad
    generalize recFits ks vs = fit at *
    cases fit
    all_goals
      go_enter Try.func8, Try.ntmps8
      go_wp2_with fail
      refine (rec_lives _).mono ?_
      rintro e w1 ⟨rfl, hb⟩
      have HF1 := Lib.hid hb
      clear hb
      go_wp2_with fail
      refine (HFT.out _ (HF1.out.rd HR0.out) (HF1.out.rd HR1.out)).mono ?_
      rintro e w2 ⟨rfl, hf⟩
      have HF2 := Lib.hid (HF1.out.trans hf)
      clear hf
      go_wp2
      go_ret
      refine ⟨?_, HF2.out⟩
      first | rfl | (congr 2; simp; omega)
theorem recordFits_walk (A0 : Option Addr) (c0 : Nat) (ks : List Byte) (A1 : Option Addr) (c1 : Nat) (vs : List Byte) (over less : Int) (w : World) (hc0 : ks.length ≤ c0) (hm0 : c0 ≤ maxLen) (hr0 : Rd w A0 ks) (hc1 : vs.length ≤ c1) (hm1 : c1 ≤ maxLen) (hr1 : Rd w A1 vs)
    (_h2 : -9223372036854775808 ≤ over ∧ over ≤ 9223372036854775807) (_h3 : -9223372036854775808 ≤ less ∧ less ≤ 9223372036854775807) :
    Calls Try.prog 8 #[.slice A0 ks.length c0, .slice A1 vs.length c1, .int .i64 over, .int .i64 less] w fun e w' => e = .returned (.bool true) ∧ Below w.heap.size w w' := by
  by_cases h : 1 ≤ ks.length ∧ ks.length ≤ 512 ∧ vs.length ≤ 5000
  · exact recordFits_few A0 c0 ks A1 c1 vs over less w h.1 h.2.1 h.2.2 hc0 hm0 hr0 hc1 hm1 hr1
  · exact recordFits_much A0 c0 ks A1 c1 vs over less w (by omega) hr0 hr1
end Go.Proofs.Ytjhgnohofcahbaa
