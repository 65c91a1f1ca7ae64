/- The walk of OctetNames. -/
import Derived.Test.YtegmpejcolmnoaaRdrD
import Derived.Test.YtegmpejcolmnoaaOctW
set_option linter.unusedVariables false
set_option linter.unusedSimpArgs false
namespace Go.Proofs.Ytegmpejcolmnoaa
open Go.ChangeShapes Go.WideShapes Go.ChangeAt Go.RowKit

theorem rd_5a (w : World) (t : TypeId) (g : Nat) (hg : g = w.heap.size) : Rd (w.alloc (.cells #[.int .u8 5, .int .u8 97] t)) (some ⟨g, 0, none⟩) [5#8, 97#8] := RdV.lit w (vbs [5#8, 97#8]) t hg
theorem rd_12 (w : World) (t : TypeId) (g : Nat) (hg : g = w.heap.size) : Rd (w.alloc (.cells #[.int .u8 1, .int .u8 2] t)) (some ⟨g, 0, none⟩) [1#8, 2#8] := RdV.lit w (vbs [1#8, 2#8]) t hg
theorem rd_x (w : World) (t : TypeId) (g : Nat) (hg : g = w.heap.size) : Rd (w.alloc (.cells #[.int .u8 120] t (1, 2))) (some ⟨g, 0, none⟩) [120#8] := RdV.litF w (vbs [120#8]) t (1, 2) hg
theorem rblk_5a : rblk [5#8, 97#8] 0 = ([], 0, 5) := by
  unfold rblk
  rw [show rnum (List.drop 0 [5#8, 97#8]) 0 0#64 = .inr (5#64, 1) from by decide]
  rfl
theorem onum_63 : (onum 9223372036854775808#64).length = 10 := by
  rw [onum_ge (by decide), onum_ge (by decide), onum_ge (by decide), onum_ge (by decide), onum_ge (by decide), onum_ge (by decide), onum_ge (by decide), onum_ge (by decide), onum_ge (by decide), onum_lt (by decide)]
  rfl
theorem size_63 (w : World) : Calls Try.prog 36 #[.int .u64 9223372036854775808] w fun e w' => e = .returned (.int .i64 10) ∧ Below w.heap.size w w' := by
  have h := oct_Size 9223372036854775808#64 w
  rw [onum_63] at h; exact h
theorem word_x3 (w : World) (B : Option Addr) (hB : Rd w B [120#8]) : Calls Try.prog 32 #[.slice B 1 1, .int .u64 1, .int .i64 3] w fun e w' => ∃ A c, e = .returned (.slice A 1 c) ∧ Rd w' A [120#8] ∧ FB w w' := by
  refine (oct_Word [120#8] B 1 1 1#64 3 w rfl (by simp) (by simp [maxLen]) (by simp) hB).mono fun e w' ⟨v, h1, h2, h3⟩ => ?_
  rw [show [120#8] ++ owordZ 3 1#64 = [120#8] from by simp [owordZ]] at h2
  obtain ⟨A, c, rfl, h4⟩ := own_str (w := w) h2
  exact ⟨A, c, h1, h4, h3⟩
set_option maxRecDepth 100000 in
set_option maxHeartbeats 1000000 in
theorem octetNames_walk (w : World) : Calls Try.prog 11 #[] w fun e w' => e = .returned (.bool true) ∧ Below w.heap.size w w' := by
  have hcv := conv_const
  go_enter Try.func11, Try.ntmps11
  go_wp2_with fail
  refine (oct_New [5#8, 97#8] _ 2 2 _ rfl (by simp) (rd_5a _ _ _ (by simp))).mono ?_
  rintro e w1 ⟨g, rfl, hr, hb⟩
  have HR1 := Lib.hid hr
  have HB1 := Lib.hid (show FB w w1 from ((FB.refl w).alloc _).call hb)
  have HG := Lib.hid (show w.heap.size ≤ g from Nat.le_trans (by simp) hr.bg)
  clear hr hb
  go_wp2_with fail
  refine (oct_RBlock HR1.out (by simp)).mono ?_
  rw [rblk_5a]
  rintro e w2 ⟨v, rfl, ho, hr, ht⟩
  obtain ⟨A2, c2, rfl, -, -, -, -⟩ := Own.form ho
  have HR2 := Lib.hid hr
  have HB2 := Lib.hid (HB1.out.tb ht HG.out)
  clear ho hr ht
  go_wp2_with fail
  refine (oct_New [1#8, 2#8] _ 2 2 _ rfl (by simp) (rd_12 _ _ _ (by simp))).mono ?_
  rintro e w3 ⟨g2, rfl, hr, hb⟩
  have HR3 := Lib.hid hr
  have HK3 := Lib.hid (show FB w2 w3 from ((FB.refl w2).alloc _).call hb)
  have HB3 := Lib.hid (HB2.out.trans HK3.out)
  have HG2 := Lib.hid (show w2.heap.size ≤ g2 from Nat.le_trans (by simp) hr.bg)
  have HR23 := Lib.hid (HR2.out.fb HK3.out)
  clear hr hb
  go_wp2_with fail
  refine (oct_lives _).mono ?_
  rintro e w4 ⟨rfl, hb⟩
  have HR4 := Lib.hid (HR3.out.fb (show FB w3 w4 from hb))
  have HR24 := Lib.hid (HR23.out.fb (show FB w3 w4 from hb))
  have HB4 := Lib.hid (HB3.out.call hb)
  clear hb
  go_wp2_with fail
  refine (oct_Err HR24.out).mono ?_
  rintro e w5 ⟨rfl, rfl⟩
  go_wp2_with fail
  refine (oct_End_nil _).mono ?_
  rintro e w5 ⟨rfl, rfl⟩
  go_wp2_with fail
  refine (oct_RNumber_nil _).mono ?_
  rintro e w5 ⟨rfl, rfl⟩
  go_wp2_with fail
  refine (size_63 _).mono ?_
  rintro e w5 ⟨rfl, hb⟩
  have HR5 := Lib.hid (HR4.out.fb (show FB w4 w5 from hb))
  have HB5 := Lib.hid (HB4.out.call hb)
  clear hb
  go_wp2_with fail
  refine (oct_RWord_ok HR5.out 2 (by omega) (by simp) (by simp)).mono ?_
  rw [show nb (xword (List.take 2 (List.drop 0 [1#8, 2#8]))) = 513 from by decide]
  rintro e w6 ⟨rfl, hr, ht⟩
  have HR6 := Lib.hid hr
  have HB6 := Lib.hid (HB5.out.tb ht (Nat.le_trans HB2.out.le HG2.out))
  clear hr ht
  go_wp2_with fail
  refine (oct_End HR6.out (by simp)).mono ?_
  rw [show rend [1#8, 2#8] (0 + 2) 0 = 0 from by decide]
  rintro e w7 ⟨rfl, hr, ht⟩
  have HR7 := Lib.hid hr
  have HB7 := Lib.hid (HB6.out.tb ht (Nat.le_trans HB2.out.le HG2.out))
  clear hr ht
  go_wp2_with fail
  refine (oct_RWord_bad HR7.out 3 (by omega)).mono ?_
  rintro e w8 ⟨rfl, hr, ht⟩
  have HR8 := Lib.hid hr
  have HB8 := Lib.hid (HB7.out.tb ht (Nat.le_trans HB2.out.le HG2.out))
  clear hr ht
  go_wp2_with fail
  refine (oct_Err HR8.out).mono ?_
  rintro e w9 ⟨rfl, rfl⟩
  go_wp2_with fail
  refine (word_x3 _ _ (rd_x _ _ _ rfl)).mono ?_
  rintro e w9 ⟨A9, c9, rfl, hr, hf⟩
  have HB9 := Lib.hid ((HB8.out.alloc _).trans hf)
  have hs9 : (convert 23 9 (.slice A9 1 c9)).run Try.prog w9 = .ok (.string { data := #[120] }) w9 := run_string c9 hr
  clear hr hf
  go_wp2
  go_ret
  exact ⟨rfl, HB9.out⟩
end Go.Proofs.Ytegmpejcolmnoaa
