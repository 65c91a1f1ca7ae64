/- The walk of XhashNames. -/
import Derived.Test.YtegmpejcolmnoaaXhW
set_option linter.unusedVariables false
set_option linter.unusedSimpArgs false
namespace Go.Proofs.Ytegmpejcolmnoaa
open Go.ChangeShapes Go.WideShapes Go.ChangeAt Go.RowKit

theorem low_n1 (w : World) : Calls Try.prog 24 #[.int .u64 4660, .int .i64 8] w fun e w' => e = .returned (.int .u64 52) ∧ w = w' := by
  have h := xh_Low 4660#64 8 w
  rw [show nb (xlow 4660#64 (xclip 8)) = 52 from by decide +kernel] at h
  exact h
theorem low_n2 (w : World) : Calls Try.prog 24 #[.int .u64 7, .int .i64 99] w fun e w' => e = .returned (.int .u64 7) ∧ w = w' := by
  have h := xh_Low 7#64 99 w
  rw [show nb (xlow 7#64 (xclip 99)) = 7 from by decide +kernel] at h
  exact h
theorem high_n1 (w : World) : Calls Try.prog 26 #[.int .u64 9223372036854775808, .int .i64 1] w fun e w' => e = .returned (.int .u64 1) ∧ w = w' := by
  have h := xh_High 9223372036854775808#64 1 w
  rw [show nb (xhigh 9223372036854775808#64 (xclip 1)) = 1 from by decide +kernel] at h
  exact h
theorem high_n2 (w : World) : Calls Try.prog 26 #[.int .u64 7, .int .i64 0] w fun e w' => e = .returned (.int .u64 0) ∧ w = w' := by
  have h := xh_High 7#64 0 w
  rw [show nb (xhigh 7#64 (xclip 0)) = 0 from by decide +kernel] at h
  exact h
theorem high_n3 (w : World) : Calls Try.prog 26 #[.int .u64 7, .int .i64 (-1)] w fun e w' => e = .returned (.int .u64 0) ∧ w = w' := by
  have h := xh_High 7#64 (-1) w
  rw [show nb (xhigh 7#64 (xclip (-1))) = 0 from by decide +kernel] at h
  exact h
theorem av_n (w : World) : Calls Try.prog 22 #[.int .u64 0] w fun e w' => e = .returned (.int .u64 0) ∧ w = w' := by
  have h := xh_Avalanche 0#64 w
  rw [show nb (xaval 0#64) = 0 from by decide +kernel] at h
  exact h
theorem rd_n (w : World) : Calls Try.prog 18 #[.int .u64 0, .int .u64 0] w fun e w' => e = .returned (.int .u64 0) ∧ w = w' := by
  have h := xh_Round 0#64 0#64 w
  rw [show nb (xround 0#64 0#64) = 0 from by decide +kernel] at h
  exact h
theorem num_n (w : World) : Calls Try.prog 30 #[.slice none 0 0, .int .u64 1] w fun e w' => ∃ A c, e = .returned (.slice A 1 c) ∧ Below w.heap.size w w' := by
  have h := oct_Number [] none 0 0 1#64 w rfl (by simp) (Rd.nil _ _)
  refine h.mono fun e w' ⟨v, h1, h2, h3⟩ => ?_
  rw [onum_lt (by decide)] at h2
  obtain ⟨A, c, rfl, -⟩ := Own.form h2
  exact ⟨A, c, h1, h3⟩

set_option maxRecDepth 100000 in
set_option maxHeartbeats 400000 in
theorem xhashNames_walk (w : World) : Calls Try.prog 7 #[] w fun e w' => e = .returned (.bool true) ∧ Below w.heap.size w w' := by
  go_enter Try.func7, Try.ntmps7
  go_wp2_with fail
  refine (xh_lives _).mono ?_
  rintro e w1 ⟨rfl, hb⟩
  have hB := (FB.refl w).call hb
  clear hb
  go_wp2_with fail
  refine (low_n1 _).mono ?_
  rintro e w2 ⟨rfl, rfl⟩
  go_wp2_with fail
  refine (high_n1 _).mono ?_
  rintro e w2 ⟨rfl, rfl⟩
  go_wp2_with fail
  refine (low_n2 _).mono ?_
  rintro e w2 ⟨rfl, rfl⟩
  go_wp2_with fail
  refine (high_n2 _).mono ?_
  rintro e w2 ⟨rfl, rfl⟩
  go_wp2_with fail
  refine (high_n3 _).mono ?_
  rintro e w2 ⟨rfl, rfl⟩
  go_wp2_with fail
  refine (av_n _).mono ?_
  rintro e w2 ⟨rfl, rfl⟩
  go_wp2_with fail
  refine (rd_n _).mono ?_
  rintro e w2 ⟨rfl, rfl⟩
  go_wp2_with fail
  refine (num_n _).mono ?_
  rintro e w2 ⟨A, c, rfl, hb⟩
  replace hB := hB.call hb
  clear hb
  go_wp2
  go_ret
  exact ⟨rfl, hB⟩
end Go.Proofs.Ytegmpejcolmnoaa
