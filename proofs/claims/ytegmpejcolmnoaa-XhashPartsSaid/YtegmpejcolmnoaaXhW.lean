/- The walks through Text, the chapter's examples; XhashNames. -/
import Derived.Test.YtegmpejcolmnoaaXhC
import Derived.Test.YtegmpejcolmnoaaStr
import Derived.Test.YtegmpejcolmnoaaOctC
set_option linter.unusedVariables false
set_option linter.unusedSimpArgs false
namespace Go.Proofs.Ytegmpejcolmnoaa
open Go.ChangeShapes Go.WideShapes Go.ChangeAt Go.RowKit

theorem xsum_short (s : BitVec 64) (xs : List Byte) (h : xs.length < 8) : xsum s xs = xaval (x4s (s + 2870177450012600261#64 + BitVec.ofNat 64 xs.length) xs) := by
  unfold xsum
  rw [if_neg (by omega), x8s_lt (by omega)]
theorem val_nil : nb (xsum 0#64 []) = 17241709254077376921 := by rw [xsum_short _ _ (by decide)]; decide +kernel
theorem val_a : nb (xsum 0#64 [97#8]) = 15154266338359012955 := by rw [xsum_short _ _ (by decide)]; decide +kernel
theorem val_abc : nb (xsum 0#64 [97#8, 98#8, 99#8]) = 4952883123889572249 := by rw [xsum_short _ _ (by decide)]; decide +kernel

set_option maxRecDepth 100000 in
set_option maxHeartbeats 400000 in
theorem xh_Text (s : BitVec 64) (xs : List Byte) (w : World) (hm : xs.length ≤ 100000000000000) :
    Calls Try.prog 17 #[.int .u64 (nb s), .string (sb xs)] w fun e w' => e = .returned (.int .u64 (nb (xsum s xs))) ∧ Below w.heap.size w w' := by
  obtain ⟨c, W', hrun, hrd, hfb, hc, hcm⟩ := run_bytes w xs (by rw [maxLen_eq]; omega)
  have HRD := Lib.hid hrd
  have HFB := Lib.hid hfb
  clear hrd hfb
  go_enter Try.func17, Try.ntmps17
  go_wp2_with fail
  refine (xh_Sum s xs _ _ c _ rfl hc hcm hm HRD.out).mono ?_
  rintro e w1 ⟨rfl, hb⟩
  have HB := Lib.hid hb
  clear hb
  go_wp2
  go_ret
  exact ⟨rfl, HFB.out.call HB.out⟩

theorem sum_nil (w : World) : Calls Try.prog 14 #[.int .u64 0, .slice none 0 0] w fun e w' => e = .returned (.int .u64 17241709254077376921) ∧ Below w.heap.size w w' := by
  have h := xh_Sum 0#64 [] none 0 0 w rfl (by simp) (by simp [maxLen]) (by simp) (Rd.nil _ _)
  rw [val_nil, nb_zero] at h
  exact h
theorem sum_a (w : World) (A : Option Addr) (hr : Rd w A [97#8]) : Calls Try.prog 14 #[.int .u64 0, .slice A 1 1] w fun e w' => e = .returned (.int .u64 15154266338359012955) ∧ Below w.heap.size w w' := by
  have h := xh_Sum 0#64 [97#8] A 1 1 w rfl (by simp) (by simp [maxLen]) (by simp) hr
  rw [val_a, nb_zero] at h
  exact h
theorem text_abc (w : World) : Calls Try.prog 17 #[.int .u64 0, .string { data := #[97, 98, 99] }] w fun e w' => e = .returned (.int .u64 4952883123889572249) ∧ Below w.heap.size w w' := by
  have h := xh_Text 0#64 [97#8, 98#8, 99#8] w (by simp)
  rw [val_abc, nb_zero, show sb [97#8, 98#8, 99#8] = { data := #[97, 98, 99] } from rfl] at h
  exact h
theorem rd_a (w : World) (t : TypeId) (g : Nat) (hg : g = w.heap.size) : Rd (w.alloc (.cells #[.int .u8 97] t (1, 2))) (some ⟨g, 0, none⟩) [97#8] := RdV.litF w (vbs [97#8]) t (1, 2) hg

set_option maxRecDepth 100000 in
set_option maxHeartbeats 400000 in
theorem xh_lives (w : World) : Calls Try.prog 13 #[] w fun e w' => e = .returned (.bool true) ∧ Below w.heap.size w w' := by
  have hcv := conv_const
  go_enter Try.func13, Try.ntmps13
  go_wp2_with fail
  refine (sum_nil _).mono ?_
  rintro e w1 ⟨rfl, hb⟩
  have hB := (FB.refl w).call hb
  clear hb
  go_wp2_with fail
  refine (sum_a _ _ (rd_a _ _ _ (by simp))).mono ?_
  rintro e w2 ⟨rfl, hb⟩
  replace hB := (hB.alloc _).call hb
  clear hb
  go_wp2_with fail
  refine (text_abc _).mono ?_
  rintro e w3 ⟨rfl, hb⟩
  replace hB := hB.call hb
  clear hb
  go_wp2
  go_ret
  exact ⟨rfl, hB⟩
end Go.Proofs.Ytegmpejcolmnoaa
