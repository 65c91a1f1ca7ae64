/- The walks through package tallymankit: Own, Pick. -/
import Derived.Test.YtoidlmhebnlnbaaM
set_option linter.unusedVariables false
set_option linter.unusedSimpArgs false
namespace Go.Proofs.Ytoidlmhebnlnbaa
open Go.ChangeShapes Go.WideShapes Go.ChangeAt Go.RowKit

/-- n modulo m, from 0 on (0 of an m below 1). -/
def pick (n m : Int) : Int := if m < 1 then 0 else n % m
theorem pick_range (n m : Int) (h : 1 ≤ m) : 0 ≤ pick n m ∧ pick n m < m := by
  unfold pick
  rw [if_neg (by omega)]
  exact ⟨Int.emod_nonneg _ (by omega), Int.emod_lt_of_pos _ (by omega)⟩
theorem tmod_neg (n m : Int) (h : 1 ≤ m) (hn : n.tmod m < 0) : n.tmod m + m = n % m := by
  rw [Int.tmod_eq_emod] at hn ⊢
  split at hn
  · have := Int.emod_nonneg n (show m ≠ 0 by omega); omega
  · rename_i hc
    rw [if_neg hc, Int.natAbs_of_nonneg (by omega)]; omega
theorem tmod_pos (n m : Int) (h : 1 ≤ m) (hn : ¬ n.tmod m < 0) : n.tmod m = n % m := by
  rw [Int.tmod_eq_emod] at hn ⊢
  split at hn
  · rename_i hc; rw [if_pos hc]; omega
  · rename_i hc
    rw [if_neg hc, Int.natAbs_of_nonneg (by omega)] at *
    have := Int.emod_lt_of_pos n (show 0 < m by omega)
    omega

set_option maxHeartbeats 400000 in
theorem kit_Pick (n m : Int) (w : World) (hm0 : 1 ≤ m) (hm : m ≤ 9223372036854775807) : Calls Try.prog 15 #[.int .i64 n, .int .i64 m] w fun e w' => e = .returned (.int .i64 (pick n m)) ∧ w = w' := by
  have hp : pick n m = n % m := by unfold pick; rw [if_neg (by omega)]
  rw [hp]
  clear hp
  have h1 : ¬ m < 1 := by omega
  have h2 : (m == 0) = false := beq_eq_false_iff_ne.2 (by omega)
  by_cases hn : n.tmod m < 0
  · have H := Lib.hid (tmod_neg n m hm0 hn)
    have hlow : -9223372036854775808 ≤ n.tmod m + m := by rw [H.out]; have := Int.emod_nonneg n (show m ≠ 0 by omega); omega
    have hd : decide (n.tmod m < 0) = true := by simpa using hn
    go_enter Try.func15, Try.ntmps15
    go_wp2
    go_ret
    exact ⟨by rw [← H.out]; simp, rfl⟩
  · have H := Lib.hid (tmod_pos n m hm0 hn)
    have hd : decide (n.tmod m < 0) = false := by simpa using hn
    go_enter Try.func15, Try.ntmps15
    go_wp2
    go_ret
    exact ⟨by rw [← H.out]; simp, rfl⟩
end Go.Proofs.Ytoidlmhebnlnbaa
