/- The walk through SpaceBack. -/
import Derived.Test.YtjhgnohofcahbaaSpQ
set_option linter.unusedVariables false
set_option linter.unusedSimpArgs false
namespace Go.Proofs.Ytjhgnohofcahbaa
open Go.ChangeShapes Go.WideShapes Go.ChangeAt Go.RowKit
set_option maxRecDepth 100000

theorem Rd.over {W W' : World} {g : Nat} {x : Int} {A B : Option Addr} {n c : Nat} {t : TypeId} {fr : Nat × Nat} {xs : List Byte} (hg : W.heap[g]? = some (.cells #[.int .i64 x, .slice B n c] t fr)) (h : Rd W A xs) (ht : TS [g] W W') : Rd W' A xs := by
  by_cases hu : 0 < xs.length
  · refine ht.rd h (fun ad ha hm => ?_)
    obtain ⟨b, o, e2, -, h2⟩ := Rd.form h hu
    rw [ha] at e2; cases e2
    have hm : b = g := by simpa using hm
    subst hm
    have := h2 0 hu
    rw [cell_of_row _ _ _ _ _ _ hg] at this
    match o with
    | 0 => simp [vb] at this
    | 1 => simp [vb] at this
    | o + 2 => simp at this
  · have : xs = [] := List.eq_nil_of_length_eq_zero (by omega)
    subst this; exact Rd.nil _ _
set_option maxHeartbeats 4000000 in
theorem spaceBack_walk (P : Int) (A : Option Addr) (c : Nat) (us : List Bool) (A1 : Option Addr) (c1 : Nat) (b : List Byte) (w : World) (hc : us.length ≤ c) (hm : c ≤ maxLen) (hr : RdV w A (us.map .bool)) (hP : -9223372036854775808 ≤ P ∧ P ≤ 9223372036854775807) (hc1 : b.length ≤ c1) (hm1 : c1 ≤ maxLen) (hr1 : Rd w A1 b) :
    Calls Try.prog 5 #[.agg #[.int .i64 P, .slice A us.length c], .slice A1 b.length c1] w fun e w' => e = .returned (.bool true) ∧ Below w.heap.size w w' := by
  have HF0 := Lib.hid ((FB.refl w).alloc (.cells #[.int .i64 P, .slice A us.length c] 41))
  have HS0 := Lib.hid (SpB.new (P := P) hr hc hm rfl)
  have HR1 := Lib.hid hr1
  have HC1 := Lib.hid hc1
  clear hr hc hm hP hr1 hc1 hm1
  go_enter Try.func5, Try.ntmps5
  go_wp2_with fail
  refine (sp_lives _).mono ?_
  rintro e w1 ⟨rfl, hb⟩
  have HF1 := Lib.hid (HF0.out.trans hb)
  have HS1 := Lib.hid (HS0.out.fb hb)
  clear hb HS0 HF0
  obtain ⟨B1, d1, hrw, -, -, -⟩ := HS1.out
  obtain ⟨q0, q1⟩ := row2 hrw
  clear hrw
  by_cases h1 : 300 < us.length
  · have hz : 300 < (us.length : Int) := by omega
    go_wp2
    go_ret
    exact ⟨rfl, HF1.out⟩
  · by_cases h2 : 1000 < b.length
    · have hz : ¬ 300 < (us.length : Int) := by omega
      have hz2 : 1000 < (b.length : Int) := by omega
      go_wp2
      go_ret
      exact ⟨rfl, HF1.out⟩
    · have hz : ¬ 300 < (us.length : Int) := by omega
      have hz2 : ¬ 1000 < (b.length : Int) := by omega
      go_wp2_with fail
      refine (kit_Own b A1 c1 _ HC1.out (by omega) (HF1.out.rd HR1.out)).mono ?_
      rintro e w2 ⟨A2, c2, rfl, ho, hb⟩
      have HF2 := Lib.hid (HF1.out.trans hb)
      have HS2 := Lib.hid (HS1.out.fb hb)
      have hcw := sp_Read b A2 c2 _ (Own.info ho).2.2.1 (by omega)
      clear ho hb HF1 HS1 q0 q1
      rcases spRead_fits b with ⟨n, vs, hrd, hby⟩ | hbad
      · rw [hrd] at hcw
        have HVL := Lib.hid (spRead_len hrd)
        have HBY := Lib.hid hby
        have HC := Lib.hid hcw
        clear hcw hrd hby
        go_wp2_with fail
        refine HC.out.mono ?_
        rintro e w3 ⟨A3, c3, rfl, hr3, hc3, hm3, hb⟩
        have hbb := hb.alloc (.cells #[.int .i64 n, .slice A3 vs.length c3] 41)
        have HF3 := Lib.hid (HF2.out.trans hbb)
        have HS3 := Lib.hid (HS2.out.fb hbb)
        have hT3 := SpB.new (P := n) (us := vs) hr3 hc3 hm3 rfl
        have HT3 := Lib.hid hT3
        have HG0 := Lib.hid (show w.heap.size < w3.heap.size from Nat.lt_of_lt_of_le HS2.out.lt hb.le)
        obtain ⟨A4, c4, hrw, hrd, hlc, hcm⟩ := hT3
        have hcw := sp_Bytes n vs A4 c4 _ hrd (by have := HVL.out; omega)
        rw [HBY.out] at hcw
        replace HC := Lib.hid hcw
        obtain ⟨q0, q1⟩ := row2 hrw
        clear hcw hrw hrd hlc hcm hb hbb hr3 hc3 hm3 HF2 HS2
        go_wp2_with fail
        refine HC.out.mono ?_
        rintro e w4 ⟨A5, c5, rfl, hr5, hc5, hm5, hb⟩
        replace hr5 : Rd w4 A5 b := hr5
        have HF := Lib.hid (HF3.out.trans hb)
        have HS := Lib.hid (HS3.out.fb hb)
        have HT := Lib.hid (HT3.out.fb hb)
        have HG := HG0
        have hs1 := run_string c5 hr5
        have hs2 := run_string c1 (HF.out.rd HR1.out)
        clear hb q0 q1 hr5 hc5 hm5 HF3 HS3 HT3 HC
        obtain ⟨A5, c5, hrw, hrd, hlc, hcm⟩ := HS.out
        have hcw := sp_Bytes P us A5 c5 _ hrd (by omega)
        have hck := sp_Check P us A5 c5
        obtain ⟨q0, q1⟩ := row2 hrw
        by_cases hok : spOk P us = true
        · rw [show spBytesR P us = (spBytes P us, 0) from by unfold spBytesR; rw [if_pos hok]] at hcw
          have HX1 := Lib.hid (spRead_back hok)
          have HX2 := Lib.hid (spRead_less hok)
          have HX3 := Lib.hid (spRead_more hok)
          have HX4 := Lib.hid (show spSame P us P us = true from by simp [spSame])
          have hxl := spBytes_len P us
          have hxl1 : 4 ≤ (spBytes P us).length := by omega
          have hxl2 : (spBytes P us).length ≤ 1000 := by omega
          generalize spBytes P us = x at *
          have HC := Lib.hid hcw
          clear hcw hok hrw hrd hlc hcm hxl hck
          go_wp2_with fail
          refine HC.out.mono ?_
          rintro e w6 ⟨A6, c6, rfl, hr6, hc6, hm6, hb⟩
          replace hr6 : Rd w6 A6 x := hr6
          replace hc6 : x.length ≤ c6 := hc6
          have HF6 := Lib.hid (HF.out.trans hb)
          have HS6 := Lib.hid (HS.out.fb hb)
          have HT6 := Lib.hid (HT.out.fb hb)
          have HR6 := Lib.hid hr6
          have HC6 := Lib.hid hc6
          clear hb q0 q1 HC hr6 hc6 hm6
          go_wp2_with fail
          refine (kit_Own x A6 c6 _ HC6.out (by omega) HR6.out).mono ?_
          rintro e w7 ⟨A7, c7, rfl, ho, hb⟩
          have HF7 := Lib.hid (HF6.out.trans hb)
          have HS7 := Lib.hid (HS6.out.fb hb)
          have HT7 := Lib.hid (HT6.out.fb hb)
          have HR7 := Lib.hid (FB.rd hb HR6.out)
          have hcw := sp_Read x A7 c7 _ (Own.info ho).2.2.1 (by omega)
          rw [HX1.out] at hcw
          have HC := Lib.hid hcw
          clear hb ho hcw HF6 HS6 HT6 HR6
          go_wp2_with fail
          refine HC.out.mono ?_
          rintro e w8 ⟨A8, c8, rfl, hr8, hc8, hm8, hb⟩
          obtain ⟨A9, c9, hrw9, -, -, -⟩ := HT7.out.fb hb
          have hst := sp_store (.int .i64 P) (.slice A8 us.length c8) hrw9 (by simp [Value.oneCell'])
          have HF8 := Lib.hid ((HF7.out.trans hb).setRow (g := w3.heap.size) (Nat.le_of_lt HG.out) #[.int .i64 P, .slice A8 us.length c8])
          have HS8 := Lib.hid (SpB.over (HS7.out.fb hb) hrw9 (ts_row w3.heap.size w8 #[.int .i64 P, .slice A8 us.length c8]) (Nat.ne_of_lt HG.out))
          have HT8 := Lib.hid (SpB.put (P := P) (us := us) hrw9 hr8 hc8 hm8)
          have HR8 := Lib.hid (Rd.over hrw9 (FB.rd hb HR7.out) (ts_row w3.heap.size w8 #[.int .i64 P, .slice A8 us.length c8]))
          have hcut := cut_hi A6 c6 x (x.length - 1) (by omega) HC6.out
          rw [show ((x.length - 1 : Nat) : Int) = (x.length : Int) - 1 from by omega] at hcut
          have hcw := sp_Read (x.take (x.length - 1)) A6 c6 _ (HR8.out.take (x.length - 1)) (by rw [List.length_take]; omega)
          rw [HX2.out, List.length_take, Nat.min_eq_left (by omega)] at hcw
          replace HC := Lib.hid hcw
          clear hcw hb hrw9 hr8 hc8 hm8 HF7 HS7 HT7 HR7
          go_wp2_with (refine wpList_store_by rfl _ _ _ rfl _ hst ?_)
          refine HC.out.mono ?_
          rintro e w9 ⟨A9, c9, rfl, -, -, -, hb⟩
          have hbb := hb.alloc (.cells #[.int .i64 0, .slice A9 0 c9] 41)
          have HF9 := Lib.hid (HF8.out.trans hbb)
          have HS9 := Lib.hid (HS8.out.fb hbb)
          have HT9 := Lib.hid (HT8.out.fb hbb)
          have HR9 := Lib.hid (hbb.rd HR8.out)
          have HB89 := Lib.hid (FB.le hb)
          clear hb hbb hst hcut HC HF8 HR8
          go_wp2_with fail
          refine (kit_Own x A6 c6 _ HC6.out (by omega) HR9.out).mono ?_
          rintro e w10 ⟨A10, c10, rfl, ho, hb⟩
          have HB10 := Lib.hid (FB.alloc hb (.cells #[.int .u8 0] 5))
          have HO10 := Lib.hid (Own.alloc ho (.cells #[.int .u8 0] 5))
          have HL10 := Lib.hid (FB.le hb)
          clear hb ho
          go_wp2_with (at_builtin; refine wpList_append_bytes rfl _ _ rfl (w9.alloc (.cells #[.int .i64 0, .slice A9 0 c9] 41)).heap.size _ _ HO10.out rfl (some ⟨w10.heap.size, 0, none⟩) 1 [0#8] rfl (RdV.lit (g := w10.heap.size) _ (vbs [0#8]) _ (by simp)) (by simp; omega) (by have := HL10.out; simp at this ⊢; omega) ?_; intro v' w11 ho hg _; have HO11 := Lib.hid ho; have HG11 := Lib.hid hg; clear ho hg)
          have hb11 := FB.grown HB10.out HG11.out (fun k hk => (OwnV.base HO10.out k hk).1)
          have HF11 := Lib.hid (HF9.out.trans hb11)
          have HS11 := Lib.hid (HS9.out.fb hb11)
          have HT11 := Lib.hid (HT9.out.fb hb11)
          clear hb11
          obtain ⟨A11, c11, rfl, h11, h12, hr11, -⟩ := Own.form HO11.out
          have hcw := sp_Read (x ++ [0#8]) A11 c11 _ hr11 (by rw [List.length_append]; simp; omega)
          rw [HX3.out] at hcw
          have HC := Lib.hid hcw
          clear hcw hr11
          go_wp2_with fail
          refine HC.out.mono ?_
          rintro e w12 ⟨A12, c12, rfl, -, -, -, hb⟩
          have hbb := hb.alloc (.cells #[.int .i64 0, .slice A12 0 c12] 41)
          have HF12 := Lib.hid (HF11.out.trans hbb)
          have HS12 := HS11.out.fb hbb
          have HT12 := HT11.out.fb hbb
          obtain ⟨B1, d1, hrw, hrd, -, -⟩ := HS12
          obtain ⟨B2, d2, hrw2, hrd2, -, -⟩ := HT12
          obtain ⟨q0, q1⟩ := row2 hrw
          obtain ⟨r0, r1⟩ := row2 hrw2
          have hcw := sp_Same P P us us B1 B2 d1 d2 _ (by omega) (by omega) hrd hrd2
          rw [HX4.out] at hcw
          replace HC := Lib.hid hcw
          clear hcw hb hbb hrw hrd hrw2 hrd2
          go_wp2_with fail
          refine HC.out.mono ?_
          rintro e w13 ⟨rfl, hb⟩
          have HF13 := Lib.hid (HF12.out.trans hb)
          clear hb
          go_wp2
          go_ret
          exact ⟨rfl, HF13.out⟩
        · rw [show spBytesR P us = ([], 2) from by unfold spBytesR; rw [if_neg hok]] at hcw
          have HCK := Lib.hid (show ∀ W, RdV W A5 (us.map .bool) → Calls Try.prog 25 #[.agg #[.int .i64 P, .slice A5 us.length c5]] W fun e w' => e = .returned (.int .i64 2) ∧ FB W w' from fun W hr => by
            have h := hck W hr (by omega)
            rw [show spChk P us = 2 from by unfold spChk; rw [if_neg hok]] at h
            exact h)
          have HC := Lib.hid hcw
          have HRD := Lib.hid hrd
          have HRW := Lib.hid hrw
          clear hcw hok hrw hrd hlc hcm hck
          go_wp2_with fail
          refine HC.out.mono ?_
          rintro e w6 ⟨A6, c6, rfl, hr6, hc6, hm6, hb⟩
          have HF6 := Lib.hid (HF.out.trans hb)
          have HC6 := Lib.hid (HCK.out _ (hb.rdV HRD.out))
          clear q0 q1
          obtain ⟨q0, q1⟩ := row2 ((hb.block _ (Array.getElem?_eq_some_iff.1 HRW.out).1).trans HRW.out)
          clear hb hr6 hc6 hm6 HC
          go_wp2_with fail
          refine HC6.out.mono ?_
          rintro e w7 ⟨rfl, hb⟩
          have HF7 := Lib.hid (HF6.out.trans hb)
          clear hb
          go_wp2
          go_ret
          exact ⟨rfl, HF7.out⟩
      · rw [hbad] at hcw
        have HC := Lib.hid hcw
        clear hcw hbad
        go_wp2_with fail
        refine HC.out.mono ?_
        rintro e w3 ⟨A3, c3, rfl, hr3, hc3, hm3, hb⟩
        have hbb := hb.alloc (.cells #[.int .i64 0, .slice A3 0 c3] 41)
        have HF := Lib.hid (HF2.out.trans hbb)
        have HS := Lib.hid (HS2.out.fb hbb)
        have HT := Lib.hid (SpB.new (P := 0) (us := []) hr3 hc3 hm3 rfl)
        have HG := Lib.hid (show w.heap.size < w3.heap.size from Nat.lt_of_lt_of_le HS2.out.lt hb.le)
        clear hb hbb hr3 hc3 hm3 HF2 HS2
        obtain ⟨A5, c5, hrw, hrd, hlc, hcm⟩ := HS.out
        have hcw := sp_Bytes P us A5 c5 _ hrd (by omega)
        have hck := sp_Check P us A5 c5
        obtain ⟨q0, q1⟩ := row2 hrw
        by_cases hok : spOk P us = true
        · rw [show spBytesR P us = (spBytes P us, 0) from by unfold spBytesR; rw [if_pos hok]] at hcw
          have HX1 := Lib.hid (spRead_back hok)
          have HX2 := Lib.hid (spRead_less hok)
          have HX3 := Lib.hid (spRead_more hok)
          have HX4 := Lib.hid (show spSame P us P us = true from by simp [spSame])
          have hxl := spBytes_len P us
          have hxl1 : 4 ≤ (spBytes P us).length := by omega
          have hxl2 : (spBytes P us).length ≤ 1000 := by omega
          generalize spBytes P us = x at *
          have HC := Lib.hid hcw
          clear hcw hok hrw hrd hlc hcm hxl hck
          go_wp2_with fail
          refine HC.out.mono ?_
          rintro e w6 ⟨A6, c6, rfl, hr6, hc6, hm6, hb⟩
          replace hr6 : Rd w6 A6 x := hr6
          replace hc6 : x.length ≤ c6 := hc6
          have HF6 := Lib.hid (HF.out.trans hb)
          have HS6 := Lib.hid (HS.out.fb hb)
          have HT6 := Lib.hid (HT.out.fb hb)
          have HR6 := Lib.hid hr6
          have HC6 := Lib.hid hc6
          clear hb q0 q1 HC hr6 hc6 hm6
          go_wp2_with fail
          refine (kit_Own x A6 c6 _ HC6.out (by omega) HR6.out).mono ?_
          rintro e w7 ⟨A7, c7, rfl, ho, hb⟩
          have HF7 := Lib.hid (HF6.out.trans hb)
          have HS7 := Lib.hid (HS6.out.fb hb)
          have HT7 := Lib.hid (HT6.out.fb hb)
          have HR7 := Lib.hid (FB.rd hb HR6.out)
          have hcw := sp_Read x A7 c7 _ (Own.info ho).2.2.1 (by omega)
          rw [HX1.out] at hcw
          have HC := Lib.hid hcw
          clear hb ho hcw HF6 HS6 HT6 HR6
          go_wp2_with fail
          refine HC.out.mono ?_
          rintro e w8 ⟨A8, c8, rfl, hr8, hc8, hm8, hb⟩
          obtain ⟨A9, c9, hrw9, -, -, -⟩ := HT7.out.fb hb
          have hst := sp_store (.int .i64 P) (.slice A8 us.length c8) hrw9 (by simp [Value.oneCell'])
          have HF8 := Lib.hid ((HF7.out.trans hb).setRow (g := w3.heap.size) (Nat.le_of_lt HG.out) #[.int .i64 P, .slice A8 us.length c8])
          have HS8 := Lib.hid (SpB.over (HS7.out.fb hb) hrw9 (ts_row w3.heap.size w8 #[.int .i64 P, .slice A8 us.length c8]) (Nat.ne_of_lt HG.out))
          have HT8 := Lib.hid (SpB.put (P := P) (us := us) hrw9 hr8 hc8 hm8)
          have HR8 := Lib.hid (Rd.over hrw9 (FB.rd hb HR7.out) (ts_row w3.heap.size w8 #[.int .i64 P, .slice A8 us.length c8]))
          have hcut := cut_hi A6 c6 x (x.length - 1) (by omega) HC6.out
          rw [show ((x.length - 1 : Nat) : Int) = (x.length : Int) - 1 from by omega] at hcut
          have hcw := sp_Read (x.take (x.length - 1)) A6 c6 _ (HR8.out.take (x.length - 1)) (by rw [List.length_take]; omega)
          rw [HX2.out, List.length_take, Nat.min_eq_left (by omega)] at hcw
          replace HC := Lib.hid hcw
          clear hcw hb hrw9 hr8 hc8 hm8 HF7 HS7 HT7 HR7
          go_wp2_with (refine wpList_store_by rfl _ _ _ rfl _ hst ?_)
          refine HC.out.mono ?_
          rintro e w9 ⟨A9, c9, rfl, -, -, -, hb⟩
          have hbb := hb.alloc (.cells #[.int .i64 0, .slice A9 0 c9] 41)
          have HF9 := Lib.hid (HF8.out.trans hbb)
          have HS9 := Lib.hid (HS8.out.fb hbb)
          have HT9 := Lib.hid (HT8.out.fb hbb)
          have HR9 := Lib.hid (hbb.rd HR8.out)
          have HB89 := Lib.hid (FB.le hb)
          clear hb hbb hst hcut HC HF8 HR8
          go_wp2_with fail
          refine (kit_Own x A6 c6 _ HC6.out (by omega) HR9.out).mono ?_
          rintro e w10 ⟨A10, c10, rfl, ho, hb⟩
          have HB10 := Lib.hid (FB.alloc hb (.cells #[.int .u8 0] 5))
          have HO10 := Lib.hid (Own.alloc ho (.cells #[.int .u8 0] 5))
          have HL10 := Lib.hid (FB.le hb)
          clear hb ho
          go_wp2_with (at_builtin; refine wpList_append_bytes rfl _ _ rfl (w9.alloc (.cells #[.int .i64 0, .slice A9 0 c9] 41)).heap.size _ _ HO10.out rfl (some ⟨w10.heap.size, 0, none⟩) 1 [0#8] rfl (RdV.lit (g := w10.heap.size) _ (vbs [0#8]) _ (by simp)) (by simp; omega) (by have := HL10.out; simp at this ⊢; omega) ?_; intro v' w11 ho hg _; have HO11 := Lib.hid ho; have HG11 := Lib.hid hg; clear ho hg)
          have hb11 := FB.grown HB10.out HG11.out (fun k hk => (OwnV.base HO10.out k hk).1)
          have HF11 := Lib.hid (HF9.out.trans hb11)
          have HS11 := Lib.hid (HS9.out.fb hb11)
          have HT11 := Lib.hid (HT9.out.fb hb11)
          clear hb11
          obtain ⟨A11, c11, rfl, h11, h12, hr11, -⟩ := Own.form HO11.out
          have hcw := sp_Read (x ++ [0#8]) A11 c11 _ hr11 (by rw [List.length_append]; simp; omega)
          rw [HX3.out] at hcw
          have HC := Lib.hid hcw
          clear hcw hr11
          go_wp2_with fail
          refine HC.out.mono ?_
          rintro e w12 ⟨A12, c12, rfl, -, -, -, hb⟩
          have hbb := hb.alloc (.cells #[.int .i64 0, .slice A12 0 c12] 41)
          have HF12 := Lib.hid (HF11.out.trans hbb)
          have HS12 := HS11.out.fb hbb
          have HT12 := HT11.out.fb hbb
          obtain ⟨B1, d1, hrw, hrd, -, -⟩ := HS12
          obtain ⟨B2, d2, hrw2, hrd2, -, -⟩ := HT12
          obtain ⟨q0, q1⟩ := row2 hrw
          obtain ⟨r0, r1⟩ := row2 hrw2
          have hcw := sp_Same P P us us B1 B2 d1 d2 _ (by omega) (by omega) hrd hrd2
          rw [HX4.out] at hcw
          replace HC := Lib.hid hcw
          clear hcw hb hbb hrw hrd hrw2 hrd2
          go_wp2_with fail
          refine HC.out.mono ?_
          rintro e w13 ⟨rfl, hb⟩
          have HF13 := Lib.hid (HF12.out.trans hb)
          clear hb
          go_wp2
          go_ret
          exact ⟨rfl, HF13.out⟩
        · rw [show spBytesR P us = ([], 2) from by unfold spBytesR; rw [if_neg hok]] at hcw
          have HCK := Lib.hid (show ∀ W, RdV W A5 (us.map .bool) → Calls Try.prog 25 #[.agg #[.int .i64 P, .slice A5 us.length c5]] W fun e w' => e = .returned (.int .i64 2) ∧ FB W w' from fun W hr => by
            have h := hck W hr (by omega)
            rw [show spChk P us = 2 from by unfold spChk; rw [if_neg hok]] at h
            exact h)
          have HC := Lib.hid hcw
          have HRD := Lib.hid hrd
          have HRW := Lib.hid hrw
          clear hcw hok hrw hrd hlc hcm hck
          go_wp2_with fail
          refine HC.out.mono ?_
          rintro e w6 ⟨A6, c6, rfl, hr6, hc6, hm6, hb⟩
          have HF6 := Lib.hid (HF.out.trans hb)
          have HC6 := Lib.hid (HCK.out _ (hb.rdV HRD.out))
          clear q0 q1
          obtain ⟨q0, q1⟩ := row2 ((hb.block _ (Array.getElem?_eq_some_iff.1 HRW.out).1).trans HRW.out)
          clear hb hr6 hc6 hm6 HC
          go_wp2_with fail
          refine HC6.out.mono ?_
          rintro e w7 ⟨rfl, hb⟩
          have HF7 := Lib.hid (HF6.out.trans hb)
          clear hb
          go_wp2
          go_ret
          exact ⟨rfl, HF7.out⟩
end Go.Proofs.Ytjhgnohofcahbaa
