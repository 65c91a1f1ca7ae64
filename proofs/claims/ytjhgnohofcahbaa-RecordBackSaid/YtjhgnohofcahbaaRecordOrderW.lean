/- The walk of RecordOrder. -/
import Derived.Test.YtjhgnohofcahbaaRecL
import Derived.Test.YtjhgnohofcahbaaXhC
set_option linter.unusedVariables false
set_option linter.unusedSimpArgs false
namespace Go.Proofs.Ytjhgnohofcahbaa
open Go.ChangeShapes Go.WideShapes Go.ChangeAt Go.RowKit
attribute [local go_sem] nb_nonneg nb_lt64 nb_lt8

set_option maxRecDepth 100000 in
set_option maxHeartbeats 400000 in
theorem rec_Hash (xs : List Byte) (A : Option Addr) (n c : Nat) (w : World) (hn : n = xs.length) (hc : xs.length ≤ c) (hcm : c ≤ maxLen) (hm : xs.length ≤ 100000000000000) (hr : Rd w A xs) :
    Calls Try.prog 27 #[.slice A n c] w fun e w' => e = .returned (.int .u64 (nb (xsum 0#64 xs))) ∧ FB w w' := by
  have HS := Lib.hid (xh_Sum 0#64 xs A n c w hn hc hcm hm hr)
  rw [nb_zero] at HS
  clear hn hc hcm hm hr
  go_enter Try.func27, Try.ntmps27
  go_wp2_with fail
  refine HS.out.mono ?_
  rintro e w1 ⟨rfl, hb⟩
  have HB := Lib.hid hb
  clear hb
  go_wp2
  go_ret
  exact ⟨rfl, HB.out⟩
set_option maxRecDepth 100000 in
set_option maxHeartbeats 4000000 in
theorem recordOrder_few (A0 : Option Addr) (c0 : Nat) (x0 : List Byte) (A1 : Option Addr) (c1 : Nat) (x1 : List Byte) (A2 : Option Addr) (c2 : Nat) (x2 : List Byte) (w : World) (h0 : x0.length ≤ 5000) (h1 : x1.length ≤ 5000) (h2 : x2.length ≤ 5000)
    (hc0 : x0.length ≤ c0) (hm0 : c0 ≤ maxLen) (hr0 : Rd w A0 x0) (hc1 : x1.length ≤ c1) (hm1 : c1 ≤ maxLen) (hr1 : Rd w A1 x1) (hc2 : x2.length ≤ c2) (hm2 : c2 ≤ maxLen) (hr2 : Rd w A2 x2) :
    Calls Try.prog 6 #[.slice A0 x0.length c0, .slice A1 x1.length c1, .slice A2 x2.length c2] w fun e w' => e = .returned (.bool true) ∧ Below w.heap.size w w' := by
  have HR0 := Lib.hid hr0
  have HR1 := Lib.hid hr1
  have HR2 := Lib.hid hr2
  have HX := Lib.hid (fun W (k0 : Rd W A0 x0) (k1 : Rd W A1 x1) => rec_Compare A0 A1 c0 c1 x0 x1 W k0 k1)
  have HY := Lib.hid (fun W (k0 : Rd W A1 x1) (k1 : Rd W A2 x2) => rec_Compare A1 A2 c1 c2 x1 x2 W k0 k1)
  have HZ := Lib.hid (fun W (k0 : Rd W A0 x0) (k1 : Rd W A2 x2) => rec_Compare A0 A2 c0 c2 x0 x2 W k0 k1)
  have HB := Lib.hid (fun W (k0 : Rd W A1 x1) (k1 : Rd W A0 x0) => rec_Compare A1 A0 c1 c0 x1 x0 W k0 k1)
  have HH0 := Lib.hid (fun W (k0 : Rd W A0 x0) => rec_Hash x0 A0 _ c0 W rfl hc0 hm0 (by omega) k0)
  have HH1 := Lib.hid (fun W (k0 : Rd W A1 x1) => rec_Hash x1 A1 _ c1 W rfl hc1 hm1 (by omega) k0)
  have hxr := bcmp_range x0 x1
  have hyr := bcmp_range x1 x2
  have hzr := bcmp_range x0 x2
  have htr := bcmp_trans x0 x1 x2
  have hz0 := bcmp_zero x0 x1
  have hsw := bcmp_swap x1 x0
  have hss := sb_beq x0 x1
  generalize bcmp x0 x1 = x at *
  generalize bcmp x1 x2 = y at *
  generalize bcmp x0 x2 = z at *
  generalize bcmp x1 x0 = xb at *
  have HTR := Lib.hid htr
  have HZ0 := Lib.hid hz0
  have HSS := Lib.hid hss
  clear htr hz0 hss hr0 hr1 hr2
  go_enter Try.func6, Try.ntmps6
  go_wp2_with fail
  refine (rec_lives _).mono ?_
  rintro e w1 ⟨rfl, hb⟩
  have HBW := Lib.hid hb
  clear hb
  go_wp2_with fail
  refine (HX.out _ (HBW.out.rd HR0.out) (HBW.out.rd HR1.out)).mono ?_
  rintro e w2 ⟨rfl, rfl⟩
  go_wp2_with fail
  refine (HY.out _ (HBW.out.rd HR1.out) (HBW.out.rd HR2.out)).mono ?_
  rintro e w2 ⟨rfl, rfl⟩
  go_wp2_with fail
  refine (HZ.out _ (HBW.out.rd HR0.out) (HBW.out.rd HR2.out)).mono ?_
  rintro e w2 ⟨rfl, rfl⟩
  go_wp2_with fail
  refine (HB.out _ (HBW.out.rd HR1.out) (HBW.out.rd HR0.out)).mono ?_
  rintro e w2 ⟨rfl, rfl⟩
  have hs0 := run_string c0 (HBW.out.rd HR0.out)
  have hs1 := run_string c1 (HBW.out.rd HR1.out)
  have hss : ((sb x0).toList == (sb x1).toList) = (x == 0) := by
    rw [HSS.out, Bool.eq_iff_iff, beq_iff_eq, beq_iff_eq]; exact HZ0.out.symm
  have hhz : x = 0 → xsum 0#64 x0 = xsum 0#64 x1 := fun h => by rw [HZ0.out.1 h]
  have HHZ := Lib.hid hhz
  clear hhz
  have hal : (x = -1 ∧ xb = 1) ∨ (x = 0 ∧ xb = 0) ∨ (x = 1 ∧ xb = -1) := by omega
  clear hsw hxr
  rcases hal with ⟨rfl, rfl⟩ | ⟨rfl, rfl⟩ | ⟨rfl, rfl⟩
  · rcases hyr with rfl | rfl | rfl
    · have hz : z = -1 := by have := HTR.out (by decide) (by decide); omega
      subst hz
      clear hzr
      go_wp2
      go_ret
      exact ⟨rfl, HBW.out⟩
    · have hz : z = -1 := by have := HTR.out (by decide) (by decide); omega
      subst hz
      clear hzr
      go_wp2
      go_ret
      exact ⟨rfl, HBW.out⟩
    · rcases hzr with rfl | rfl | rfl
      all_goals
        go_wp2
        go_ret
        exact ⟨rfl, HBW.out⟩
  · have hh := HHZ.out rfl
    have hsub : (y = 1) ∨ (y ≤ 0 ∧ z ≤ 0) := by
      rcases hyr with rfl | rfl | rfl
      · exact .inr ⟨by decide, (HTR.out (by decide) (by decide)).1⟩
      · exact .inr ⟨by decide, (HTR.out (by decide) (by decide)).1⟩
      · exact .inl rfl
    have HHH := Lib.hid hh
    clear hh
    rcases hyr with rfl | rfl | rfl
    all_goals
      rcases hzr with rfl | rfl | rfl
    all_goals
      first
      | (exfalso; revert hsub; decide)
      | (clear hsub
         go_wp2_with fail
         refine (HH0.out _ (HBW.out.rd HR0.out)).mono ?_
         rintro e w3 ⟨rfl, hb3⟩
         have HB3 := Lib.hid (HBW.out.trans hb3)
         clear hb3 hs0 hs1
         go_wp2_with fail
         refine (HH1.out _ (HB3.out.rd HR1.out)).mono ?_
         rintro e w4 ⟨rfl, hb4⟩
         have HB4 := Lib.hid (HB3.out.trans hb4)
         clear hb4
         rw [← HHH.out]
         go_wp2
         go_ret
         exact ⟨rfl, HB4.out⟩)
  · go_wp2
    go_ret
    exact ⟨rfl, HBW.out⟩
set_option maxRecDepth 100000 in
set_option maxHeartbeats 400000 in
theorem recordOrder_much (A0 : Option Addr) (c0 : Nat) (x0 : List Byte) (A1 : Option Addr) (c1 : Nat) (x1 : List Byte) (A2 : Option Addr) (c2 : Nat) (x2 : List Byte) (w : World) (h : 5000 < x0.length ∨ (x0.length ≤ 5000 ∧ 5000 < x1.length) ∨ (x0.length ≤ 5000 ∧ x1.length ≤ 5000 ∧ 5000 < x2.length)) :
    Calls Try.prog 6 #[.slice A0 x0.length c0, .slice A1 x1.length c1, .slice A2 x2.length c2] w fun e w' => e = .returned (.bool true) ∧ Below w.heap.size w w' := by
  rcases h with h | ⟨h, h'⟩ | ⟨h, h', h''⟩
  all_goals
    go_enter Try.func6, Try.ntmps6
    go_wp2_with fail
    refine (rec_lives _).mono ?_
    rintro e w1 ⟨rfl, hb⟩
    have HBW := Lib.hid hb
    clear hb
    go_wp2
    go_ret
    exact ⟨rfl, HBW.out⟩
theorem recordOrder_walk (A0 : Option Addr) (c0 : Nat) (x0 : List Byte) (A1 : Option Addr) (c1 : Nat) (x1 : List Byte) (A2 : Option Addr) (c2 : Nat) (x2 : List Byte) (w : World) (hc0 : x0.length ≤ c0) (hm0 : c0 ≤ maxLen) (hr0 : Rd w A0 x0) (hc1 : x1.length ≤ c1) (hm1 : c1 ≤ maxLen) (hr1 : Rd w A1 x1) (hc2 : x2.length ≤ c2) (hm2 : c2 ≤ maxLen) (hr2 : Rd w A2 x2) :
    Calls Try.prog 6 #[.slice A0 x0.length c0, .slice A1 x1.length c1, .slice A2 x2.length c2] w fun e w' => e = .returned (.bool true) ∧ Below w.heap.size w w' := by
  by_cases h : x0.length ≤ 5000 ∧ x1.length ≤ 5000 ∧ x2.length ≤ 5000
  · exact recordOrder_few A0 c0 x0 A1 c1 x1 A2 c2 x2 w h.1 h.2.1 h.2.2 hc0 hm0 hr0 hc1 hm1 hr1 hc2 hm2 hr2
  · exact recordOrder_much A0 c0 x0 A1 c1 x1 A2 c2 x2 w (by omega)
end Go.Proofs.Ytjhgnohofcahbaa
