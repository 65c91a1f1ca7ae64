/- The walk of XhashSums. -/
import Derived.Test.YtegmpejcolmnoaaXhR
set_option linter.unusedVariables false
set_option linter.unusedSimpArgs false
namespace Go.Proofs.Ytegmpejcolmnoaa
open Go.ChangeShapes Go.WideShapes Go.ChangeAt Go.RowKit
attribute [local go_sem] nb_nonneg nb_lt64

set_option maxRecDepth 100000 in
set_option maxHeartbeats 1000000 in
theorem xhashSums_walk (s : BitVec 64) (A : Option Addr) (c : Nat) (xs : List Byte) (a u : BitVec 64) (n : Int) (w : World) (hc : xs.length ≤ c) (hcm : c ≤ maxLen) (hr : Rd w A xs) (_hw : -9223372036854775808 ≤ n ∧ n ≤ 9223372036854775807) :
    Calls Try.prog 3 #[.int .u64 (nb s), .slice A xs.length c, .int .u64 (nb a), .int .u64 (nb u), .int .i64 n] w fun e w' => e = .returned (.bool true) ∧ Below w.heap.size w w' := by
  have HR := Lib.hid hr
  have hcm' := hcm
  unfold maxLen at hcm'
  clear hr
  by_cases h3 : 3000 < xs.length
  · go_enter Try.func3, Try.ntmps3
    go_wp2_with fail
    refine (xh_lives _).mono ?_
    rintro e w1 ⟨rfl, hb⟩
    have hB := (FB.refl w).call hb
    clear hb
    go_wp2
    go_ret
    exact ⟨rfl, hB⟩
  · go_enter Try.func3, Try.ntmps3
    go_wp2_with fail
    refine (xh_lives _).mono ?_
    rintro e w1 ⟨rfl, hb⟩
    have HB1 := Lib.hid ((FB.refl w).call hb)
    clear hb
    go_wp2_with fail
    refine (kit_Own xs A c _ hc (by omega) (HB1.out.rd HR.out)).mono ?_
    rintro e w2 ⟨A', c', rfl, ho, hb⟩
    have HB2 := Lib.hid (HB1.out.call hb)
    obtain ⟨hc', hcm2, hr', -, -⟩ := Own.info ho
    have HR' := Lib.hid hr'
    clear hb ho hr'
    go_wp2_with fail
    refine (xh_Sum s xs A' _ c' _ rfl hc' hcm2 (by omega) HR'.out).mono ?_
    rintro e w3 ⟨rfl, hb⟩
    have HB3 := Lib.hid (HB2.out.call hb)
    clear hb
    go_wp2_with fail
    refine (ref_Sum s xs A _ c _ rfl hc hcm (by omega) (HB3.out.rd HR.out)).mono ?_
    rintro e w4 ⟨rfl, hb⟩
    have HB4 := Lib.hid (HB3.out.call hb)
    clear hb
    have hs := run_string c (HB4.out.rd HR.out)
    go_wp2_with fail
    refine (xh_Text s xs _ (by omega)).mono ?_
    rintro e w5 ⟨rfl, hb⟩
    have HB5 := Lib.hid (HB4.out.call hb)
    clear hb hs
    go_wp2_with fail
    refine (ref_Sum s xs A _ c _ rfl hc hcm (by omega) (HB5.out.rd HR.out)).mono ?_
    rintro e w6 ⟨rfl, hb⟩
    have HB6 := Lib.hid (HB5.out.call hb)
    clear hb
    go_wp2_with fail
    refine (xh_Round _ _ _).mono ?_
    rintro e w7 ⟨rfl, rfl⟩
    go_wp2_with fail
    refine (ref_Round _ _ _).mono ?_
    rintro e w7 ⟨rfl, rfl⟩
    go_wp2_with fail
    refine (xh_Merge _ _ _).mono ?_
    rintro e w7 ⟨rfl, rfl⟩
    go_wp2_with fail
    refine (ref_Merge _ _ _).mono ?_
    rintro e w7 ⟨rfl, rfl⟩
    go_wp2_with fail
    refine (xh_Avalanche _ _).mono ?_
    rintro e w7 ⟨rfl, rfl⟩
    go_wp2_with fail
    refine (ref_Avalanche _ _).mono ?_
    rintro e w7 ⟨rfl, rfl⟩
    go_wp2_with fail
    refine (xh_Low _ _ _).mono ?_
    rintro e w7 ⟨rfl, rfl⟩
    go_wp2_with fail
    refine (ref_Low _ _ _).mono ?_
    rintro e w7 ⟨rfl, rfl⟩
    go_wp2_with fail
    refine (xh_High _ _ _).mono ?_
    rintro e w7 ⟨rfl, rfl⟩
    go_wp2_with fail
    refine (ref_High _ _ _).mono ?_
    rintro e w7 ⟨rfl, rfl⟩
    go_wp2
    go_ret
    exact ⟨by simp, HB6.out⟩
end Go.Proofs.Ytegmpejcolmnoaa
