/- The walks through the hash's words. -/
import Derived.Test.YtegmpejcolmnoaaXhA
import Derived.Test.YtegmpejcolmnoaaRdrA
set_option linter.unusedVariables false
set_option linter.unusedSimpArgs false
namespace Go.Proofs.Ytegmpejcolmnoaa
open Go.ChangeShapes Go.WideShapes Go.ChangeAt Go.RowKit
attribute [local go_sem] nb_nonneg nb_lt8 nb_lt64

set_option maxRecDepth 100000 in
set_option maxHeartbeats 400000 in
theorem xh_word (xs : List Byte) (A : Option Addr) (n c q : Nat) (w : World) (hn : n = xs.length) (hc : xs.length ≤ c) (hm : xs.length ≤ 100000000000000) (hr : Rd w A xs) (hq : q = 2 ∨ q = 4 ∨ q = 8) (hqn : q ≤ xs.length) :
    Calls Try.prog 48 #[.slice A n c, .int .i64 (q : Int)] w fun e w' => e = .returned (.int .u64 (nb (xword (xs.take q)))) ∧ Below w.heap.size w w' := by
  subst hn
  have hcut := cut_hi A c xs q hqn hc
  have HR := Lib.hid (hr.take q)
  have hlen : q = (xs.take q).length := by rw [List.length_take]; omega
  have HLEN := Lib.hid hlen
  clear hr hlen
  go_enter Try.func48, Try.ntmps48
  go_wp2_with fail
  refine (oct_New (xs.take q) A q c _ HLEN.out (by rw [← HLEN.out]; omega) HR.out).mono ?_
  rintro e w1 ⟨g, rfl, hr, hb⟩
  have HR1 := Lib.hid hr
  have HB1 := Lib.hid hb
  clear hr hb
  go_wp2_with fail
  refine (oct_RWord_ok HR1.out q hq (by rw [← HLEN.out]; omega) (by rw [← HLEN.out]; omega)).mono ?_
  rintro e w2 ⟨rfl, hr, ht⟩
  have HT2 := Lib.hid ht
  clear hr ht
  go_wp2
  go_ret
  refine ⟨?_, FB.tb HB1.out HT2.out HR1.out.bg⟩
  have e : (xs.take q).take q = xs.take q := List.take_of_length_le (by rw [← HLEN.out]; omega)
  rw [e]
  rfl
set_option maxRecDepth 100000 in
set_option maxHeartbeats 400000 in
theorem ref_word (xs : List Byte) (A : Option Addr) (n c q : Nat) (w : World) (hn : n = xs.length) (hm : xs.length ≤ 100000000000000) (hr : Rd w A xs) (hq : q ≤ 8) (hqn : q ≤ xs.length) :
    Calls Try.prog 50 #[.slice A n c, .int .i64 (q : Int)] w fun e w' => e = .returned (.int .u64 (nb (xword (xs.take q)))) ∧ w = w' := by
  subst hn
  have HR := Lib.hid hr
  clear hr
  go_enter Try.func50, Try.ntmps50
  go_wp2
  go_loop [5, 6] (fun s i => ∃ j : Nat, j ≤ q ∧ i = .int .i64 j ∧ s = .int .u64 (nb (xword (xs.take j)))) (fun _ i => q - (intOf i).toNat)
  case atStart => exact ⟨0, by omega, rfl, by simp [xword, nb_zero]⟩
  case round =>
    obtain ⟨j, hj, rfl, rfl⟩ := hrel
    by_cases hlt : j < q
    · obtain ⟨b0, o0, rfl, hb0, hcell⟩ := HR.out.form (by omega)
      have hc := hcell j (by omega)
      have HS := Lib.hid (show xword (xs.take (j + 1)) = xword (xs.take j) + ((xs[j]'(by omega)).setWidth 64) <<< (8 * j) by
        rw [List.take_succ_eq_append_getElem (by omega), xword_add, show (xs.take j).length = j by rw [List.length_take]; omega])
      clear hcell
      have hjx : (j : Int) < xs.length := by omega
      generalize xs[j]'(by omega) = y at *
      generalize xword (xs.take j) = s at *
      have hsh : IntKind.u64.wrap (nb y * 2 ^ (8 * j)) = nb (y.setWidth 64 <<< (8 * j)) := by rw [← wrap_shl, nb_setWidth y (by omega)]
      have hor := wrap_add64 s (y.setWidth 64 <<< (8 * j))
      unfold vb at hc
      have hwy : IntKind.u64.wrap (nb y) = nb y := by rw [wrap_u64]; exact Int.emod_eq_of_lt (nb_nonneg _) (by have := nb_lt8 y; omega)
      go_wp2
      go_round
      case rel => exact ⟨j + 1, by omega, by go_num, by rw [HS.out, ← hor, ← hsh]⟩
      case measure => simp [intOf]; omega
    · obtain rfl : j = q := by omega
      go_wp2
      go_ret
      exact ⟨rfl, rfl⟩
end Go.Proofs.Ytegmpejcolmnoaa
