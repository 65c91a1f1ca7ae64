/- The walks through the hash's words. -/
import Derived.Test.YtjhgnohofcahbaaXhA
import Derived.Test.YtjhgnohofcahbaaRdrA
set_option linter.unusedVariables false
set_option linter.unusedSimpArgs false
namespace Go.Proofs.Ytjhgnohofcahbaa
open Go.ChangeShapes Go.WideShapes Go.ChangeAt Go.RowKit
attribute [local go_sem] nb_nonneg nb_lt8 nb_lt64

set_option maxRecDepth 100000 in
set_option maxHeartbeats 400000 in
theorem xh_word (xs : List Byte) (A : Option Addr) (n c q : Nat) (w : World) (hn : n = xs.length) (hc : xs.length ≤ c) (hm : xs.length ≤ 100000000000000) (hr : Rd w A xs) (hq : q = 2 ∨ q = 4 ∨ q = 8) (hqn : q ≤ xs.length) :
    Calls Try.prog 80 #[.slice A n c, .int .i64 (q : Int)] w fun e w' => e = .returned (.int .u64 (nb (xword (xs.take q)))) ∧ Below w.heap.size w w' := by
  subst hn
  have hcut := cut_hi A c xs q hqn hc
  have HR := Lib.hid (hr.take q)
  have hlen : q = (xs.take q).length := by rw [List.length_take]; omega
  have HLEN := Lib.hid hlen
  clear hr hlen
  go_enter Try.func80, Try.ntmps80
  go_wp2_with fail
  refine (oct_New (xs.take q) A q c _ HLEN.out (by rw [← HLEN.out]; omega) HR.out).mono ?_
  rintro e w1 ⟨g, rfl, hr, hb⟩
  have HR1 := Lib.hid hr
  have HB1 := Lib.hid hb
  clear hr hb
  go_wp2_with fail
  refine (oct_RWord_ok HR1.out q hq (by rw [← HLEN.out]; omega) (by rw [← HLEN.out]; omega)).mono ?_
  rintro e w2 ⟨rfl, hr, ht⟩
  have HT2 := Lib.hid ht
  clear hr ht
  go_wp2
  go_ret
  refine ⟨?_, FB.tb HB1.out HT2.out HR1.out.bg⟩
  have e : (xs.take q).take q = xs.take q := List.take_of_length_le (by rw [← HLEN.out]; omega)
  rw [e]
  rfl
end Go.Proofs.Ytjhgnohofcahbaa
