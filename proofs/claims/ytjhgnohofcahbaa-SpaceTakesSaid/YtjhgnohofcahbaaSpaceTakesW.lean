/- The walk through SpaceTakes. -/
import Derived.Test.YtjhgnohofcahbaaSpS
set_option linter.unusedVariables false
set_option linter.unusedSimpArgs false
namespace Go.Proofs.Ytjhgnohofcahbaa
open Go.ChangeShapes Go.WideShapes Go.ChangeAt Go.RowKit
set_option maxRecDepth 100000

/-- What stands in memory between two rounds. -/
def TkW (w : World) (g6 : Nat) (A5 : Option Addr) (fs : List Nat) (P : Int) (us : List Bool) (Q : Int) (vs cur : List Bool) (W : World) : Prop :=
  FB w W ∧ SpB W w.heap.size P us ∧ SpB W (w.heap.size + 1) Q vs ∧ RdV W A5 (ivs fs) ∧ SpB W g6 P cur
theorem TkW.fb {w W W' : World} {g6 : Nat} {A5 : Option Addr} {fs : List Nat} {P Q : Int} {us vs cur : List Bool} (h : TkW w g6 A5 fs P us Q vs cur W) (hb : FB W W') : TkW w g6 A5 fs P us Q vs cur W' :=
  ⟨h.1.trans hb, h.2.1.fb hb, h.2.2.1.fb hb, hb.rdV h.2.2.2.1, h.2.2.2.2.fb hb⟩
set_option maxHeartbeats 4000000 in
theorem spaceTakes_walk (P : Int) (A : Option Addr) (c : Nat) (us : List Bool) (Q : Int) (B : Option Addr) (d : Nat) (vs : List Bool) (w : World) (hc : us.length ≤ c) (hm : c ≤ maxLen) (hr : RdV w A (us.map .bool)) (hP : -9223372036854775808 ≤ P ∧ P ≤ 9223372036854775807) (hc2 : vs.length ≤ d) (hm2 : d ≤ maxLen) (hr2 : RdV w B (vs.map .bool)) (hQ : -9223372036854775808 ≤ Q ∧ Q ≤ 9223372036854775807) :
    Calls Try.prog 11 #[.agg #[.int .i64 P, .slice A us.length c], .agg #[.int .i64 Q, .slice B vs.length d]] w fun e w' => e = .returned (.bool true) ∧ Below w.heap.size w w' := by
  obtain ⟨hf, hb1, hb2, -⟩ := box22 w (.int .i64 P) (.slice A us.length c) (.int .i64 Q) (.slice B vs.length d)
  have HF0 := Lib.hid hf
  have HS0 := Lib.hid (show SpB _ w.heap.size P us from ⟨A, c, hb1, hf.rdV hr, hc, hm⟩)
  have HT0 := Lib.hid (show SpB _ (w.heap.size + 1) Q vs from ⟨B, d, hb2, hf.rdV hr2, hc2, hm2⟩)
  clear hf hb1 hb2 hc hm hr hP hc2 hm2 hr2 hQ
  go_enter Try.func11, Try.ntmps11
  go_wp2_with fail
  refine (sp_lives _).mono ?_
  rintro e w1 ⟨rfl, hb⟩
  have HF1 := Lib.hid (HF0.out.trans hb)
  have HS1 := Lib.hid (HS0.out.fb hb)
  have HT1 := Lib.hid (HT0.out.fb hb)
  clear hb HS0 HF0 HT0
  obtain ⟨A1, c1, hrw, hrd, -, -⟩ := HS1.out
  obtain ⟨q0, q1⟩ := row2 hrw
  obtain ⟨B1, d1, hrw2, -, -, -⟩ := HT1.out
  obtain ⟨r0, r1⟩ := row2 hrw2
  have hck := sp_Check P us A1 c1 w1 hrd
  clear hrw hrw2 hrd
  by_cases h1 : 300 < us.length
  · have hz : 300 < (us.length : Int) := by omega
    clear hck
    go_wp2
    go_ret
    exact ⟨rfl, HF1.out⟩
  · by_cases h2 : 300 < vs.length
    · have hz : ¬ 300 < (us.length : Int) := by omega
      have hz2 : 300 < (vs.length : Int) := by omega
      clear hck
      go_wp2
      go_ret
      exact ⟨rfl, HF1.out⟩
    · have hz : ¬ 300 < (us.length : Int) := by omega
      have hz2 : ¬ 300 < (vs.length : Int) := by omega
      replace hck := hck (by omega)
      by_cases hok : spOk P us = true
      · rw [show spChk P us = 0 from by unfold spChk; rw [if_pos hok]] at hck
        have HC := Lib.hid hck
        have HOK := Lib.hid hok
        have hfs : spFree P us = frees us us.length := by unfold spFree; rw [if_pos hok]
        have HFS := Lib.hid hfs
        clear hck hok hfs
        go_wp2_with fail
        refine HC.out.mono ?_
        rintro e w2 ⟨rfl, hb⟩
        have HF2 := Lib.hid (HF1.out.trans hb)
        have HS2 := Lib.hid (HS1.out.fb hb)
        have HT2 := Lib.hid (HT1.out.fb hb)
        clear hb HF1 HS1 HT1 q0 q1 r0 r1 HC
        obtain ⟨A2, c2, hrw, hrd, -, -⟩ := HS2.out
        obtain ⟨q0, q1⟩ := row2 hrw
        have hcw := sp_Free P us A2 c2 w2 hrd (by omega)
        rw [HFS.out] at hcw
        have HC := Lib.hid hcw
        clear hcw hrw hrd
        obtain ⟨fs, hfs⟩ : ∃ fs, fs = frees us us.length := ⟨_, rfl⟩
        have HFQ := Lib.hid hfs
        rw [← hfs] at HC
        have hfl : fs.length ≤ us.length := by rw [hfs]; exact frees_le _ _
        clear hfs
        go_wp2_with fail
        refine HC.out.mono ?_
        rintro e w3 ⟨A5, c5, rfl, hr5, hb⟩
        have HF3 := Lib.hid (HF2.out.trans hb)
        have HS3 := Lib.hid (HS2.out.fb hb)
        have HT3 := Lib.hid (HT2.out.fb hb)
        have HA5 := Lib.hid (show ∀ ad, A5 = some ad → 0 < fs.length → ad.block < w3.heap.size from fun ad ha hp => by
          obtain ⟨kb, ko, e2, hk, -⟩ := RdV.form hr5 (by rw [ivs_len]; exact hp)
          rw [ha] at e2; cases e2; exact hk)
        clear q0 q1 HF2 HS2 HT2 HC
        obtain ⟨A3, c3, hrw, hrd, hlc, hcm⟩ := HS3.out
        obtain ⟨q0, q1⟩ := row2 hrw
        have hbb := (FB.refl w3).alloc (.cells #[.int .i64 P, .slice A3 us.length c3] 41)
        have HW4 := Lib.hid (show TkW w w3.heap.size A5 fs P us Q vs us _ from ⟨HF3.out.trans hbb, HS3.out.fb hbb, HT3.out.fb hbb, hbb.rdV hr5, SpB.new hrd hlc hcm rfl⟩)
        have HG := Lib.hid (show w.heap.size + 1 < w3.heap.size from HT3.out.lt)
        clear hb hbb hrw hrd hlc hcm hr5 HF3 HS3 HT3
        go_wp2_with fail
        clear q0 q1
        generalize hw4 : w3.alloc (.cells #[.int .i64 P, .slice A3 us.length c3] 41) = w4 at *
        clear hw4
        obtain ⟨g6, hg6⟩ : ∃ g6, g6 = w3.heap.size := ⟨_, rfl⟩
        rw [← hg6] at HW4 HG HA5 ⊢
        clear hg6
        go_loopw [7] (fun c7 wr => ∃ (i : Nat) (cur : List Bool), i ≤ fs.length ∧ c7 = .int .i64 i ∧ Hid (TkOk P us cur i) ∧ Hid (TkW w g6 A5 fs P us Q vs cur wr)) (fun c7 wr => fs.length - (intOf c7).toNat)
        case atStart => exact ⟨0, us, by omega, rfl, tk_start HOK.out, HW4.out⟩
        case round =>
          obtain ⟨i, cur, hi, rfl, HTK, HW⟩ := hrel
          have HCL := Lib.hid (show cur.length = us.length from HTK.out.1)
          obtain ⟨A6, c6, hrw, hrd, hlc, hcm⟩ := HW.out.2.2.2.2
          obtain ⟨q0, q1⟩ := row2 hrw
          have hcw := sp_Take P cur A6 c6 wr hrd (by have := HCL.out; omega)
          by_cases hlt : i < fs.length
          · have hil : (i : Int) < (fs.length : Int) := by omega
            obtain ⟨k, hk, hkl, t1, t2, t3, t4, t5⟩ := tk_step HTK.out (by rw [← HFQ.out]; exact hlt)
            rw [t1] at hcw
            have HNL := Lib.hid (show (cur.set k true).length = us.length from by rw [List.length_set]; exact HCL.out)
            have HTN := Lib.hid t5
            have HC := Lib.hid hcw
            rw [← HFQ.out] at hk t4
            have HGV := Lib.hid t2
            have HUS := Lib.hid t3
            have HCN := Lib.hid (show (((spFree P (cur.set k true)).length : Nat) : Int) = (fs.length : Int) - (i : Int) - 1 from by omega)
            have HSM1 := Lib.hid (show spSame P cur P cur = true from by simp [spSame])
            have HSM2 := Lib.hid (show spSame P (cur.set k true) P (cur.set k true) = true from by simp [spSame])
            obtain ⟨b5, o5, rfl, -, hcs⟩ := RdV.form HW.out.2.2.2.1 (by rw [ivs_len]; omega)
            have hcell := hcs i (by rw [ivs_len]; exact hlt)
            have hki : (ivs fs)[i]'(by rw [ivs_len]; exact hlt) = .int .i64 (k : Int) := by
              have e := hk
              rw [List.getElem?_eq_getElem hlt] at e
              unfold ivs
              rw [List.getElem_map, Option.some.inj e]
            rw [hki] at hcell
            have HCELL := Lib.hid hcell
            generalize cur.set k true = nx at *
            clear hk hkl t1 t2 t3 t4 t5 hcs hcell hki hcw hrw hrd hlc hcm
            go_wp2_with fail
            refine HC.out.mono ?_
            rintro e u1 ⟨A9, c9, rfl, hr9, hc9, hm9, hb⟩
            have hbb := hb.alloc (.cells #[.int .i64 P, .slice A9 nx.length c9] 41)
            have HW1 := Lib.hid (HW.out.fb hbb)
            have HCELL1 := Lib.hid (hbb.cell HCELL.out)
            have h9 := SpB.new (P := P) (us := nx) hr9 hc9 hm9 rfl
            have H9 := Lib.hid h9
            clear q0 q1 HC
            obtain ⟨Ax, cx, hrw, hrd, hlc, hcm⟩ := h9
            obtain ⟨q0, q1⟩ := row2 hrw
            have hcw := sp_Give P nx Ax cx (k : Int) _ hrd (by have := HNL.out; omega) hlc hcm
            rw [HGV.out] at hcw
            have HC := Lib.hid hcw
            clear hcw hrw hrd hlc hcm hb hbb hr9 hc9 hm9
            go_wp2_with fail
            refine HC.out.mono ?_
            rintro e u2 ⟨A11, c11, rfl, hr11, hc11, hm11, hb⟩
            have hbb := hb.alloc (.cells #[.int .i64 P, .slice A11 cur.length c11] 41)
            have HW2 := Lib.hid (HW1.out.fb hbb)
            have HCELL2 := Lib.hid (hbb.cell HCELL1.out)
            have H92 := Lib.hid (H9.out.fb hbb)
            have H11 := Lib.hid (SpB.new (P := P) (us := cur) hr11 hc11 hm11 rfl)
            clear q0 q1 HC HW1 HCELL1 H9
            obtain ⟨Ay, cy, hrw, hrd, hlc, hcm⟩ := HW2.out.2.2.2.2
            obtain ⟨q0, q1⟩ := row2 hrw
            have hcw := sp_Use P cur Ay cy (k : Int) _ hrd (by have := HCL.out; omega) hlc hcm
            rw [HUS.out] at hcw
            have HC := Lib.hid hcw
            clear hcw hrw hrd hlc hcm hb hbb hr11 hc11 hm11
            go_wp2_with fail
            refine HC.out.mono ?_
            rintro e u3 ⟨A13, c13, rfl, hr13, hc13, hm13, hb⟩
            have hbb := hb.alloc (.cells #[.int .i64 P, .slice A13 nx.length c13] 41)
            have HW3 := Lib.hid (HW2.out.fb hbb)
            have hcell3 := hbb.cell HCELL2.out
            have H93 := Lib.hid (H92.out.fb hbb)
            have H113 := Lib.hid (H11.out.fb hbb)
            have H13 := Lib.hid (SpB.new (P := P) (us := nx) hr13 hc13 hm13 rfl)
            clear q0 q1 HC HW2 HCELL2 H92 H11
            obtain ⟨Az, cz, hrw, hrd, hlc, hcm⟩ := H93.out
            obtain ⟨q0, q1⟩ := row2 hrw
            have hcw := sp_Count P nx Az cz _ hrd (by have := HNL.out; omega)
            rw [HCN.out] at hcw
            have HC := Lib.hid hcw
            clear hcw hrw hrd hlc hcm hb hbb hr13 hc13 hm13
            go_wp2_with fail
            refine HC.out.mono ?_
            rintro e u4 ⟨rfl, hb⟩
            have HW4 := Lib.hid (HW3.out.fb hb)
            have H94 := Lib.hid (H93.out.fb hb)
            have H114 := Lib.hid (H113.out.fb hb)
            have H134 := Lib.hid (H13.out.fb hb)
            clear q0 q1 HC HW3 H93 H113 H13 hcell3 hb
            obtain ⟨Az1, cz1, hrw, hrd, -, -⟩ := H114.out
            obtain ⟨q0, q1⟩ := row2 hrw
            obtain ⟨Az2, cz2, hrw2, hrd2, -, -⟩ := HW4.out.2.2.2.2
            obtain ⟨r0, r1⟩ := row2 hrw2
            have hcw := sp_Same P P cur cur Az1 Az2 cz1 cz2 _ (by have := HCL.out; omega) (by have := HCL.out; omega) hrd hrd2
            rw [HSM1.out] at hcw
            have HC := Lib.hid hcw
            clear hcw hrw hrd hrw2 hrd2
            go_wp2_with fail
            refine HC.out.mono ?_
            rintro e u5 ⟨rfl, hb⟩
            have HW5 := Lib.hid (HW4.out.fb hb)
            have H95 := Lib.hid (H94.out.fb hb)
            have H135 := Lib.hid (H134.out.fb hb)
            clear q0 q1 r0 r1 HC HW4 H94 H114 H134 hb
            obtain ⟨Az3, cz3, hrw, hrd, -, -⟩ := H135.out
            obtain ⟨q0, q1⟩ := row2 hrw
            obtain ⟨Az4, cz4, hrw2, hrd2, -, -⟩ := H95.out
            obtain ⟨r0, r1⟩ := row2 hrw2
            have hcw := sp_Same P P nx nx Az3 Az4 cz3 cz4 _ (by have := HNL.out; omega) (by have := HNL.out; omega) hrd hrd2
            rw [HSM2.out] at hcw
            have HC := Lib.hid hcw
            clear hcw hrw hrd hrw2 hrd2
            go_wp2_with fail
            refine HC.out.mono ?_
            rintro e u6 ⟨rfl, hb⟩
            have HW6 := Lib.hid (HW5.out.fb hb)
            have h96 := H95.out.fb hb
            clear q0 q1 r0 r1 HC HW5 H95 H135 hb
            obtain ⟨Az5, cz5, hrw, hrd, hlc, hcm⟩ := h96
            obtain ⟨q0, q1⟩ := row2 hrw
            obtain ⟨Az6, cz6, hrw2, -, -, -⟩ := HW6.out.2.2.2.2
            have hst := sp_store (.int .i64 P) (.slice Az5 nx.length cz5) hrw2 (by simp [Value.oneCell'])
            have HW7 := Lib.hid (show TkW w g6 (some ⟨b5, o5, none⟩) fs P us Q vs nx (u6.setRow g6 #[.int .i64 P, .slice Az5 nx.length cz5]) from
              ⟨HW6.out.1.setRow (g := g6) (by have := HG.out; omega) _, SpB.over HW6.out.2.1 hrw2 (ts_row g6 u6 _) (by have := HG.out; omega), SpB.over HW6.out.2.2.1 hrw2 (ts_row g6 u6 _) (by have := HG.out; omega),
               (ts_row g6 u6 _).rdV HW6.out.2.2.2.1 (fun ad ha hm => by have := HA5.out ad ha (by omega); simp at hm; omega), SpB.put hrw2 hrd hlc hcm⟩)
            clear hrw hrd hlc hcm hrw2 HW6
            go_wp2_with (refine wpList_store_by rfl _ _ _ rfl _ hst ?_)
            go_roundw
            case rel => exact ⟨i + 1, nx, by omega, by go_num, HTN.out, HW7.out⟩
            case measure => simp [intOf]; omega
          · obtain rfl : i = fs.length := by omega
            have hil : ¬ (fs.length : Int) < (fs.length : Int) := by omega
            rw [tk_end HTK.out (by rw [← HFQ.out]; omega)] at hcw
            have HC := Lib.hid hcw
            clear hcw hrw hrd hlc hcm
            go_wp2_with fail
            refine HC.out.mono ?_
            rintro e u1 ⟨A9, c9, rfl, -, -, -, hb⟩
            have hbb := hb.alloc (.cells #[.int .i64 0, .slice A9 0 c9] 41)
            have HF1 := Lib.hid (HW.out.1.trans hbb)
            have HS1 := Lib.hid (HW.out.2.1.fb hbb)
            have HT1 := Lib.hid (HW.out.2.2.1.fb hbb)
            clear q0 q1 hb hbb HC
            obtain ⟨A10, c10, hrw, hrd, -, -⟩ := HS1.out
            obtain ⟨q0, q1⟩ := row2 hrw
            have hcw := sp_Count P us A10 c10 _ hrd (by omega)
            rw [HFS.out, ← HFQ.out] at hcw
            have HC := Lib.hid hcw
            clear hcw hrw hrd
            go_wp2_with fail
            refine HC.out.mono ?_
            rintro e u2 ⟨rfl, hb⟩
            have HF2 := Lib.hid (HF1.out.trans hb)
            have HS2 := Lib.hid (HS1.out.fb hb)
            have HT2 := Lib.hid (HT1.out.fb hb)
            clear q0 q1 hb HC HF1 HS1 HT1
            obtain ⟨A11, c11, hrw, hrd, -, -⟩ := HS2.out
            obtain ⟨q0, q1⟩ := row2 hrw
            obtain ⟨B11, d11, hrw2, hrd2, -, -⟩ := HT2.out
            obtain ⟨r0, r1⟩ := row2 hrw2
            have hcw := sp_Both P Q us vs A11 B11 c11 d11 _ (by omega) (by omega) hrd hrd2
            by_cases hbo : spOk Q vs = true ∧ P = Q
            · rw [show spBoth P us Q vs = (P, orL us vs, 0) from by unfold spBoth; rw [if_pos ⟨HOK.out, hbo.1, hbo.2⟩]] at hcw
              have HC := Lib.hid hcw
              have HLV := Lib.hid (show us.length = vs.length from by
                have a1 := (spOk_iff.1 HOK.out).2.2.1
                have a2 := (spOk_iff.1 hbo.1).2.2.1
                have a3 := hbo.2
                omega)
              have HOL := Lib.hid (orL_len us vs)
              have HOG := Lib.hid (fun i (h : i < us.length) (h2 : i < vs.length) => orL_get (us := us) (vs := vs) h h2)
              generalize orL us vs = ol at *
              clear hcw hrw hrd hrw2 hrd2 hbo
              go_wp2_with fail
              refine HC.out.mono ?_
              rintro e u3 ⟨A18, c18, rfl, hr18, hc18, hm18, hb⟩
              have hbb := hb.alloc (.cells #[.int .i64 P, .slice A18 ol.length c18] 41)
              have HF3 := Lib.hid (HF2.out.trans hbb)
              have HS3 := Lib.hid (HS2.out.fb hbb)
              have HT3 := Lib.hid (HT2.out.fb hbb)
              have H18 := Lib.hid (SpB.new (P := P) (us := ol) hr18 hc18 hm18 rfl)
              clear q0 q1 r0 r1 hb hbb hr18 hc18 hm18 HC HF2 HS2 HT2
              go_wp2_with fail
              obtain ⟨g18, hg18⟩ : ∃ g18, g18 = u3.heap.size := ⟨_, rfl⟩
              rw [← hg18] at H18 ⊢
              generalize hw8 : u3.alloc (.cells #[.int .i64 P, .slice A18 ol.length c18] 41) = w8 at *
              clear hg18 hw8
              go_loopw [19] (fun c19 wl => ∃ j : Nat, j ≤ ol.length ∧ c19 = .int .i64 j ∧ Hid (FB w8 wl)) (fun c19 wl => ol.length - (intOf c19).toNat)
              case atStart => exact ⟨0, by omega, rfl, FB.refl _⟩
              case round =>
                obtain ⟨j, hj, rfl, HL⟩ := hrel
                obtain ⟨A21, c21, hrw1, hrd1, -, -⟩ := H18.out.fb HL.out
                obtain ⟨A22, c22, hrw2, hrd2, -, -⟩ := HS3.out.fb HL.out
                obtain ⟨A23, c23, hrw3, hrd3, -, -⟩ := HT3.out.fb HL.out
                by_cases hlj : j < ol.length
                · have hjz : (j : Int) < (ol.length : Int) := by omega
                  have hju : j < us.length := by have := HOL.out; omega
                  have hjv : j < vs.length := by have := HLV.out; omega
                  have hjz2 : (j : Int) < (us.length : Int) := by omega
                  have hjz3 : (j : Int) < (vs.length : Int) := by omega
                  obtain ⟨b1, o1, rfl, hc1⟩ := RdV.bcell hrd1 hlj
                  obtain ⟨b2, o2, rfl, hc2⟩ := RdV.bcell hrd2 hju
                  obtain ⟨b3, o3, rfl, hc3⟩ := RdV.bcell hrd3 hjv
                  have hol := HOG.out j hju hjv
                  rw [List.getElem?_eq_getElem hlj] at hol
                  rw [Option.some.inj hol] at hc1
                  have R1 := Lib.hid (row2 hrw1).2
                  have R2 := Lib.hid (row2 hrw2).2
                  have R3 := Lib.hid (row2 hrw3).2
                  have q := (row2 hrw1).2
                  generalize us[j] = x at *
                  generalize vs[j] = y at *
                  have C1 := Lib.hid hc1
                  have C2 := Lib.hid hc2
                  have C3 := Lib.hid hc3
                  clear hol hrw1 hrw2 hrw3 hrd1 hrd2 hrd3 hc1 hc2 hc3
                  cases x
                  · rw [Bool.false_or] at C1
                    go_wp2_with fail
                    clear q
                    obtain ⟨W0, hW0⟩ : ∃ W0 : World, W0 = wr := ⟨_, rfl⟩
                    rw [← hW0]
                    refine region_sch (E := FB) ((0, true) :: (1, true) :: (2, true) :: (3, true) :: (4, true) :: (5, true) :: (6, true) :: (7, true) :: (8, true) :: (9, true) :: (10, true) :: (11, true) :: (12, true) :: (13, true) :: (14, true) :: (15, true) :: (16, true) :: (17, true) :: []) (by kernel_rfl) FB.refl fb_trans (fun _ _ d _ _ h => by cases d <;> exact h) (by kernel_rfl) ?_
                    intro ops hops0
                    have hops := Lib.hid hops0
                    clear hops0
                    have HF : FB W0 W0.drew := (FB.refl _).drew
                    generalize W0.drew = wF at *
                    have HFq := Lib.hid (show FB wr wF from by rw [← hW0]; exact HF)
                    clear hW0 HF
                    have K1 := Lib.hid (FB.cell HFq.out R1.out)
                    have K2 := Lib.hid (FB.cell HFq.out R2.out)
                    have K3 := Lib.hid (FB.cell HFq.out R3.out)
                    have K4 := Lib.hid (FB.cell HFq.out C1.out)
                    have K5 := Lib.hid (FB.cell HFq.out C2.out)
                    have K6 := Lib.hid (FB.cell HFq.out C3.out)
                    repeat (refine sch_take (o := ?_) (v := ?_) (a' := ?_) (at_of hops.out ?_) ?_ (fun W hW => ?_) ?_ ?_; rotate_left 3; (focus (simp only [List.getElem?_toArray, List.getElem?_cons_zero, List.getElem?_cons_succ]; rfl)); (focus (rw [hops.out]; rfl)); (focus (have u1 := FB.cell hW K1.out; have u2 := FB.cell hW K2.out; have u3 := FB.cell hW K3.out; have u4 := FB.cell hW K4.out; have u5 := FB.cell hW K5.out; have u6 := FB.cell hW K6.out; go_simp; with_reducible rfl)); (focus (simp only [Act.put, List.setIfInBounds_toArray, List.set_cons_zero, List.set_cons_succ]; rfl)))
                    refine sch_done ?_
                    have HL2 := Lib.hid (HL.out.trans HFq.out)
                    clear hops
                    go_wp2
                    go_roundw
                    case rel => exact ⟨j + 1, by omega, by go_num, HL2.out⟩
                    case measure => simp [intOf]; omega
                  · rw [Bool.true_or] at C1
                    go_wp2_with fail
                    clear q
                    obtain ⟨W0, hW0⟩ : ∃ W0 : World, W0 = wr := ⟨_, rfl⟩
                    rw [← hW0]
                    refine region_sch (E := FB) ((0, true) :: (1, true) :: (2, true) :: (3, true) :: (4, true) :: (5, true) :: (6, true) :: (7, true) :: (8, true) :: (9, true) :: (10, true) :: (11, true) :: (12, true) :: (13, true) :: (14, true) :: (15, true) :: (16, true) :: (17, true) :: []) (by kernel_rfl) FB.refl fb_trans (fun _ _ d _ _ h => by cases d <;> exact h) (by kernel_rfl) ?_
                    intro ops hops0
                    have hops := Lib.hid hops0
                    clear hops0
                    have HF : FB W0 W0.drew := (FB.refl _).drew
                    generalize W0.drew = wF at *
                    have HFq := Lib.hid (show FB wr wF from by rw [← hW0]; exact HF)
                    clear hW0 HF
                    have K1 := Lib.hid (FB.cell HFq.out R1.out)
                    have K2 := Lib.hid (FB.cell HFq.out R2.out)
                    have K3 := Lib.hid (FB.cell HFq.out R3.out)
                    have K4 := Lib.hid (FB.cell HFq.out C1.out)
                    have K5 := Lib.hid (FB.cell HFq.out C2.out)
                    repeat (refine sch_take (o := ?_) (v := ?_) (a' := ?_) (at_of hops.out ?_) ?_ (fun W hW => ?_) ?_ ?_; rotate_left 3; (focus (simp only [List.getElem?_toArray, List.getElem?_cons_zero, List.getElem?_cons_succ]; rfl)); (focus (rw [hops.out]; rfl)); (focus (have u1 := FB.cell hW K1.out; have u2 := FB.cell hW K2.out; have u3 := FB.cell hW K3.out; have u4 := FB.cell hW K4.out; have u5 := FB.cell hW K5.out; go_simp; with_reducible rfl)); (focus (simp only [Act.put, List.setIfInBounds_toArray, List.set_cons_zero, List.set_cons_succ]; rfl)))
                    repeat (refine sch_skip (o := ?_) (a' := ?_) FB.refl (at_of hops.out ?_) ?_ ?_ ?_; rotate_left 2; (focus (simp only [List.getElem?_toArray, List.getElem?_cons_zero, List.getElem?_cons_succ]; rfl)); (focus (rw [hops.out]; rfl)); (focus (simp only [Act.put, List.setIfInBounds_toArray, List.set_cons_zero, List.set_cons_succ]; rfl)))
                    repeat (refine sch_take (o := ?_) (v := ?_) (a' := ?_) (at_of hops.out ?_) ?_ (fun W hW => ?_) ?_ ?_; rotate_left 3; (focus (simp only [List.getElem?_toArray, List.getElem?_cons_zero, List.getElem?_cons_succ]; rfl)); (focus (rw [hops.out]; rfl)); (focus (have u1 := FB.cell hW K1.out; have u2 := FB.cell hW K2.out; have u3 := FB.cell hW K3.out; have u4 := FB.cell hW K4.out; have u5 := FB.cell hW K5.out; go_simp; with_reducible rfl)); (focus (simp only [Act.put, List.setIfInBounds_toArray, List.set_cons_zero, List.set_cons_succ]; rfl)))
                    refine sch_done ?_
                    have HL2 := Lib.hid (HL.out.trans HFq.out)
                    clear hops
                    go_wp2
                    go_roundw
                    case rel => exact ⟨j + 1, by omega, by go_num, HL2.out⟩
                    case measure => simp [intOf]; omega
                · obtain rfl : j = ol.length := by omega
                  have hjz : ¬ (ol.length : Int) < (ol.length : Int) := by omega
                  have q := (row2 hrw1).2
                  have HEND := Lib.hid (HF3.out.trans HL.out)
                  clear hrw1 hrw2 hrw3 hrd1 hrd2 hrd3
                  go_wp2
                  go_ret
                  exact ⟨rfl, HEND.out⟩
            · rw [show spBoth P us Q vs = (0, [], 2) from by unfold spBoth; rw [if_neg (fun h => hbo h.2)]] at hcw
              have HC := Lib.hid hcw
              clear hcw hrw hrd hrw2 hrd2
              go_wp2_with fail
              refine HC.out.mono ?_
              rintro e u3 ⟨A18, c18, rfl, -, -, -, hb⟩
              have hbb := hb.alloc (.cells #[.int .i64 0, .slice A18 0 c18] 41)
              have HF3 := Lib.hid (HF2.out.trans hbb)
              have HS3 := Lib.hid (HS2.out.fb hbb)
              have HT3 := Lib.hid (HT2.out.fb hbb)
              clear q0 q1 r0 r1 hb hbb HC HF2 HS2 HT2
              obtain ⟨B12, d12, hrw2, hrd2, -, -⟩ := HT3.out
              obtain ⟨r0, r1⟩ := row2 hrw2
              have hcw := sp_Check Q vs B12 d12 _ hrd2 (by omega)
              by_cases hoq : spOk Q vs = true
              · rw [show spChk Q vs = 0 from by unfold spChk; rw [if_pos hoq]] at hcw
                have hne : (Q == P) = false := by
                  have : ¬ P = Q := fun h => hbo ⟨hoq, h⟩
                  simpa using fun h : Q = P => this h.symm
                have HC := Lib.hid hcw
                clear hcw hrw2 hrd2 hbo hoq
                go_wp2_with fail
                refine HC.out.mono ?_
                rintro e u4 ⟨rfl, hb⟩
                have HF4 := Lib.hid (HF3.out.trans hb)
                clear r0 r1
                obtain ⟨B13, d13, hrw2, -, -, -⟩ := HT3.out.fb hb
                obtain ⟨r0, r1⟩ := row2 hrw2
                obtain ⟨A13, c13, hrw, -, -, -⟩ := HS3.out.fb hb
                obtain ⟨q0, q1⟩ := row2 hrw
                have hne2 : (Q != P) = true := by rw [bne, hne]; rfl
                clear hb hrw hrw2
                go_wp2
                go_ret
                exact ⟨by simp [hne], HF4.out⟩
              · rw [show spChk Q vs = 2 from by unfold spChk; rw [if_neg hoq]] at hcw
                have HC := Lib.hid hcw
                clear hcw hrw2 hrd2 hbo hoq
                go_wp2_with fail
                refine HC.out.mono ?_
                rintro e u4 ⟨rfl, hb⟩
                have HF4 := Lib.hid (HF3.out.trans hb)
                clear hb
                go_wp2
                go_ret
                exact ⟨rfl, HF4.out⟩
      · rw [show spChk P us = 2 from by unfold spChk; rw [if_neg hok]] at hck
        have HC := Lib.hid hck
        clear hck hok
        go_wp2_with fail
        refine HC.out.mono ?_
        rintro e w2 ⟨rfl, hb⟩
        have HF2 := Lib.hid (HF1.out.trans hb)
        clear hb
        go_wp2
        go_ret
        exact ⟨rfl, HF2.out⟩
end Go.Proofs.Ytjhgnohofcahbaa
