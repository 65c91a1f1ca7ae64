/- The walk through SpaceNames. -/
import Derived.Test.YtjhgnohofcahbaaSpL
set_option linter.unusedVariables false
set_option linter.unusedSimpArgs false
namespace Go.Proofs.Ytjhgnohofcahbaa
open Go.ChangeShapes Go.WideShapes Go.ChangeAt Go.RowKit
set_option maxRecDepth 100000

def nam9 : List Bool := [true, true, false, false, false, false, false, false, false]
theorem nam_7 : spNew 7 = (0, [], 2) := rfl
theorem nam_9 : spNew 9 = (9, nam9, 0) := rfl
theorem nam_u1 : spUse 9 nam9 1 = (0, [], 7) := by decide
theorem nam_g1 : spGive 9 nam9 1 = (0, [], 2) := by decide
theorem nam_g2 : spGive 9 nam9 2 = (0, [], 6) := by decide
theorem nam_u9 : spUse 9 nam9 9 = (0, [], 2) := by decide
theorem nam_b : spBoth 9 nam9 8 liv0 = (0, [], 2) := by decide
theorem nam_c : (spFree 9 nam9).length = 7 := by decide
theorem nam_s : spSame 9 nam9 9 nam9 = true := by decide
theorem nam_d : spSame 9 nam9 8 liv0 = false := by decide
theorem nam_k : spChk 0 [] = 2 := by decide
theorem nam_f : spFree 0 [] = [] := by decide
theorem nk_7 (w : World) : Calls Try.prog 33 #[.int .i64 7] w fun e w' => SpR (0, [], 2) w e w' := by have h := sp_New 7 w; rw [nam_7] at h; exact h
theorem nk_9 (w : World) : Calls Try.prog 33 #[.int .i64 9] w fun e w' => SpR (9, nam9, 0) w e w' := by have h := sp_New 9 w; rw [nam_9] at h; exact h
theorem nk_8 (w : World) : Calls Try.prog 33 #[.int .i64 8] w fun e w' => SpR (8, liv0, 0) w e w' := by have h := sp_New 8 w; rw [liv_n] at h; exact h
theorem nk_u1 (A : Option Addr) (c : Nat) (w : World) (hr : RdV w A (nam9.map .bool)) (hc : nam9.length ≤ c) (hm : c ≤ maxLen) : Calls Try.prog 28 #[.agg #[.int .i64 9, .slice A nam9.length c], .int .i64 1] w fun e w' => SpR (0, [], 7) w e w' := by
  have h := sp_Use 9 nam9 A c 1 w hr (by decide) hc hm
  rw [nam_u1] at h; exact h
theorem nk_g1 (A : Option Addr) (c : Nat) (w : World) (hr : RdV w A (nam9.map .bool)) (hc : nam9.length ≤ c) (hm : c ≤ maxLen) : Calls Try.prog 29 #[.agg #[.int .i64 9, .slice A nam9.length c], .int .i64 1] w fun e w' => SpR (0, [], 2) w e w' := by
  have h := sp_Give 9 nam9 A c 1 w hr (by decide) hc hm
  rw [nam_g1] at h; exact h
theorem nk_g2 (A : Option Addr) (c : Nat) (w : World) (hr : RdV w A (nam9.map .bool)) (hc : nam9.length ≤ c) (hm : c ≤ maxLen) : Calls Try.prog 29 #[.agg #[.int .i64 9, .slice A nam9.length c], .int .i64 2] w fun e w' => SpR (0, [], 6) w e w' := by
  have h := sp_Give 9 nam9 A c 2 w hr (by decide) hc hm
  rw [nam_g2] at h; exact h
theorem nk_u9 (A : Option Addr) (c : Nat) (w : World) (hr : RdV w A (nam9.map .bool)) (hc : nam9.length ≤ c) (hm : c ≤ maxLen) : Calls Try.prog 28 #[.agg #[.int .i64 9, .slice A nam9.length c], .int .i64 9] w fun e w' => SpR (0, [], 2) w e w' := by
  have h := sp_Use 9 nam9 A c 9 w hr (by decide) hc hm
  rw [nam_u9] at h; exact h
theorem nk_b (A B : Option Addr) (c d : Nat) (w : World) (hr : RdV w A (nam9.map .bool)) (hs : RdV w B (liv0.map .bool)) : Calls Try.prog 34 #[.agg #[.int .i64 9, .slice A nam9.length c], .agg #[.int .i64 8, .slice B liv0.length d]] w fun e w' => SpR (0, [], 2) w e w' := by
  have h := sp_Both 9 8 nam9 liv0 A B c d w (by decide) (by decide) hr hs
  rw [nam_b] at h; exact h
theorem nk_c (A : Option Addr) (c : Nat) (w : World) (hr : RdV w A (nam9.map .bool)) : Calls Try.prog 30 #[.agg #[.int .i64 9, .slice A nam9.length c]] w fun e w' => e = .returned (.int .i64 7) ∧ FB w w' := by
  have h := sp_Count 9 nam9 A c w hr (by decide)
  rw [nam_c] at h; exact h
theorem nk_s (A : Option Addr) (c : Nat) (w : World) (hr : RdV w A (nam9.map .bool)) : Calls Try.prog 26 #[.agg #[.int .i64 9, .slice A nam9.length c], .agg #[.int .i64 9, .slice A nam9.length c]] w fun e w' => e = .returned (.bool true) ∧ FB w w' := by
  have h := sp_Same 9 9 nam9 nam9 A A c c w (by decide) (by decide) hr hr
  rw [nam_s] at h; exact h
theorem nk_d (A B : Option Addr) (c d : Nat) (w : World) (hr : RdV w A (nam9.map .bool)) (hs : RdV w B (liv0.map .bool)) : Calls Try.prog 26 #[.agg #[.int .i64 9, .slice A nam9.length c], .agg #[.int .i64 8, .slice B liv0.length d]] w fun e w' => e = .returned (.bool false) ∧ FB w w' := by
  have h := sp_Same 9 8 nam9 liv0 A B c d w (by decide) (by decide) hr hs
  rw [nam_d] at h; exact h
theorem nk_k (w : World) : Calls Try.prog 25 #[.agg #[.int .i64 0, .slice none 0 0]] w fun e w' => e = .returned (.int .i64 2) ∧ FB w w' := by
  have h := sp_Check 0 [] none 0 w (RdV.nil _ _) (by decide)
  rw [nam_k] at h; exact h
theorem nk_f (w : World) : Calls Try.prog 31 #[.agg #[.int .i64 0, .slice none 0 0]] w fun e w' => ∃ A' c', e = .returned (.slice A' 0 c') ∧ FB w w' := by
  have h := sp_Free 0 [] none 0 w (RdV.nil _ _) (by decide)
  rw [nam_f] at h
  exact h.mono fun e w' ⟨A', c', h1, h2, h3⟩ => ⟨A', c', h1, h3⟩
set_option maxHeartbeats 2000000 in
theorem spaceNames_walk (w : World) : Calls Try.prog 9 #[] w fun e w' => e = .returned (.bool true) ∧ Below w.heap.size w w' := by
  go_enter Try.func9, Try.ntmps9
  go_wp2_with fail
  refine (nk_7 _).mono ?_
  rintro e w1 ⟨A1, c1, rfl, -, -, -, hb⟩
  have HF1 := Lib.hid (hb.alloc (.cells #[.int .i64 0, .slice A1 0 c1] 41))
  clear hb
  go_wp2_with fail
  refine (nk_9 _).mono ?_
  rintro e w2 ⟨A2, c2, rfl, hr2, hc2, hm2, hb⟩
  have hbb := hb.alloc (.cells #[.int .i64 9, .slice A2 nam9.length c2] 41)
  have HF2 := Lib.hid (HF1.out.trans hbb)
  have HS2 := Lib.hid (SpB.new (P := 9) (us := nam9) hr2 hc2 hm2 rfl)
  obtain ⟨A, c, hrw, hrd, hlc, hcm⟩ := HS2.out
  have HC := Lib.hid (nk_u1 A c _ hrd hlc hcm)
  obtain ⟨q0, q1⟩ := row2 hrw
  clear hrw hrd hlc hcm hb hbb hr2 hc2 hm2
  go_wp2_with fail
  refine HC.out.mono ?_
  rintro e w3 ⟨A3, c3, rfl, -, -, -, hb⟩
  have hbb := hb.alloc (.cells #[.int .i64 0, .slice A3 0 c3] 41)
  have HF3 := Lib.hid (HF2.out.trans hbb)
  have HS3 := Lib.hid (HS2.out.fb hbb)
  clear q0 q1 HC HF2 HS2
  obtain ⟨A, c, hrw, hrd, hlc, hcm⟩ := HS3.out
  have HC := Lib.hid (nk_g1 A c _ hrd hlc hcm)
  obtain ⟨q0, q1⟩ := row2 hrw
  clear hrw hrd hlc hcm hb hbb
  go_wp2_with fail
  refine HC.out.mono ?_
  rintro e w4 ⟨A4, c4, rfl, -, -, -, hb⟩
  have hbb := hb.alloc (.cells #[.int .i64 0, .slice A4 0 c4] 41)
  have HF4 := Lib.hid (HF3.out.trans hbb)
  have HS4 := Lib.hid (HS3.out.fb hbb)
  clear q0 q1 HC HF3 HS3
  obtain ⟨A, c, hrw, hrd, hlc, hcm⟩ := HS4.out
  have HC := Lib.hid (nk_g2 A c _ hrd hlc hcm)
  obtain ⟨q0, q1⟩ := row2 hrw
  clear hrw hrd hlc hcm hb hbb
  go_wp2_with fail
  refine HC.out.mono ?_
  rintro e w5 ⟨A5, c5, rfl, -, -, -, hb⟩
  have hbb := hb.alloc (.cells #[.int .i64 0, .slice A5 0 c5] 41)
  have HF5 := Lib.hid (HF4.out.trans hbb)
  have HS5 := Lib.hid (HS4.out.fb hbb)
  clear q0 q1 HC HF4 HS4
  obtain ⟨A, c, hrw, hrd, hlc, hcm⟩ := HS5.out
  have HC := Lib.hid (nk_u9 A c _ hrd hlc hcm)
  obtain ⟨q0, q1⟩ := row2 hrw
  clear hrw hrd hlc hcm hb hbb
  go_wp2_with fail
  refine HC.out.mono ?_
  rintro e w6 ⟨A6, c6, rfl, -, -, -, hb⟩
  have hbb := hb.alloc (.cells #[.int .i64 0, .slice A6 0 c6] 41)
  have HF6 := Lib.hid (HF5.out.trans hbb)
  have HS6 := Lib.hid (HS5.out.fb hbb)
  clear q0 q1 HC HF5 HS5
  clear hb hbb
  go_wp2_with fail
  refine (nk_8 _).mono ?_
  rintro e w7 ⟨A7, c7, rfl, hr7, hc7, hm7, hb⟩
  have hbb := hb.alloc (.cells #[.int .i64 8, .slice A7 liv0.length c7] 41)
  have HF7 := Lib.hid (HF6.out.trans hbb)
  have HS7 := Lib.hid (HS6.out.fb hbb)
  have HT7 := Lib.hid (SpB.new (P := 8) (us := liv0) hr7 hc7 hm7 rfl)
  clear hb hbb hr7 hc7 hm7 HF6 HS6
  obtain ⟨A, c, hrw, hrd, hlc, hcm⟩ := HS7.out
  obtain ⟨B, d, hrw2, hrd2, hlc2, hcm2⟩ := HT7.out
  have HC := Lib.hid (nk_b A B c d _ hrd hrd2)
  obtain ⟨q0, q1⟩ := row2 hrw
  obtain ⟨r0, r1⟩ := row2 hrw2
  clear hrw hrd hlc hcm hrw2 hrd2 hlc2 hcm2
  go_wp2_with fail
  refine HC.out.mono ?_
  rintro e w8 ⟨A8, c8, rfl, -, -, -, hb⟩
  have hbb := hb.alloc (.cells #[.int .i64 0, .slice A8 0 c8] 41)
  have HF8 := Lib.hid (HF7.out.trans hbb)
  have HS8 := Lib.hid (HS7.out.fb hbb)
  have HT8 := Lib.hid (HT7.out.fb hbb)
  clear q0 q1 r0 r1 hb hbb HC HF7 HS7 HT7
  obtain ⟨A, c, hrw, hrd, hlc, hcm⟩ := HS8.out
  obtain ⟨B, d, hrw2, hrd2, hlc2, hcm2⟩ := HT8.out
  have HC := Lib.hid (fun W => sp_lives W)
  obtain ⟨q0, q1⟩ := row2 hrw
  obtain ⟨r0, r1⟩ := row2 hrw2
  clear hrw hrd hlc hcm hrw2 hrd2 hlc2 hcm2
  go_wp2_with fail
  refine (HC.out _).mono ?_
  rintro e w9 ⟨rfl, hb⟩
  have hbb := hb
  have HF9 := Lib.hid (HF8.out.trans hbb)
  have HS9 := Lib.hid (HS8.out.fb hbb)
  have HT9 := Lib.hid (HT8.out.fb hbb)
  clear q0 q1 r0 r1 hb hbb HC HF8 HS8 HT8
  obtain ⟨A, c, hrw, hrd, hlc, hcm⟩ := HS9.out
  obtain ⟨B, d, hrw2, hrd2, hlc2, hcm2⟩ := HT9.out
  have HC := Lib.hid (nk_c A c _ hrd)
  obtain ⟨q0, q1⟩ := row2 hrw
  obtain ⟨r0, r1⟩ := row2 hrw2
  clear hrw hrd hlc hcm hrw2 hrd2 hlc2 hcm2
  go_wp2_with fail
  refine HC.out.mono ?_
  rintro e w10 ⟨rfl, hb⟩
  have hbb := hb
  have HF10 := Lib.hid (HF9.out.trans hbb)
  have HS10 := Lib.hid (HS9.out.fb hbb)
  have HT10 := Lib.hid (HT9.out.fb hbb)
  clear q0 q1 r0 r1 hb hbb HC HF9 HS9 HT9
  obtain ⟨A, c, hrw, hrd, hlc, hcm⟩ := HS10.out
  obtain ⟨B, d, hrw2, hrd2, hlc2, hcm2⟩ := HT10.out
  have HC := Lib.hid (nk_s A c _ hrd)
  obtain ⟨q0, q1⟩ := row2 hrw
  obtain ⟨r0, r1⟩ := row2 hrw2
  clear hrw hrd hlc hcm hrw2 hrd2 hlc2 hcm2
  go_wp2_with fail
  refine HC.out.mono ?_
  rintro e w11 ⟨rfl, hb⟩
  have hbb := hb
  have HF11 := Lib.hid (HF10.out.trans hbb)
  have HS11 := Lib.hid (HS10.out.fb hbb)
  have HT11 := Lib.hid (HT10.out.fb hbb)
  clear q0 q1 r0 r1 hb hbb HC HF10 HS10 HT10
  obtain ⟨A, c, hrw, hrd, hlc, hcm⟩ := HS11.out
  obtain ⟨B, d, hrw2, hrd2, hlc2, hcm2⟩ := HT11.out
  have HC := Lib.hid (nk_d A B c d _ hrd hrd2)
  obtain ⟨q0, q1⟩ := row2 hrw
  obtain ⟨r0, r1⟩ := row2 hrw2
  clear hrw hrd hlc hcm hrw2 hrd2 hlc2 hcm2
  go_wp2_with fail
  refine HC.out.mono ?_
  rintro e w12 ⟨rfl, hb⟩
  have hbb := hb
  have HF12 := Lib.hid (HF11.out.trans hbb)
  have HS12 := Lib.hid (HS11.out.fb hbb)
  have HT12 := Lib.hid (HT11.out.fb hbb)
  clear q0 q1 r0 r1 hb hbb HC HF11 HS11 HT11
  go_wp2_with fail
  refine (nk_k _).mono ?_
  rintro e w13 ⟨rfl, hb⟩
  have HF13 := Lib.hid (HF12.out.trans hb)
  clear hb
  go_wp2_with fail
  refine (nk_f _).mono ?_
  rintro e w14 ⟨A14, c14, rfl, hb⟩
  have HF14 := Lib.hid (HF13.out.trans hb)
  clear hb
  go_wp2
  go_ret
  exact ⟨rfl, HF14.out⟩
end Go.Proofs.Ytjhgnohofcahbaa
