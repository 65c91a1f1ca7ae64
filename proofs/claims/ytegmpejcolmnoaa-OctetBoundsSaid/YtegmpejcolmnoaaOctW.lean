/- The chapter's examples of octet. -/
import Derived.Test.YtegmpejcolmnoaaRdrC
import Derived.Test.YtegmpejcolmnoaaOctC
import Derived.Test.YtegmpejcolmnoaaStr
set_option linter.unusedVariables false
set_option linter.unusedSimpArgs false
namespace Go.Proofs.Ytegmpejcolmnoaa
open Go.ChangeShapes Go.WideShapes Go.ChangeAt Go.RowKit

theorem own_str {w w' : World} {base : Nat} {v : Value} {xs : List Byte} (h : Own w' base v xs) : ∃ A c, v = .slice A xs.length c ∧ Rd w' A xs := by
  obtain ⟨A, c, h1, -, -, h2, -⟩ := Own.form h
  exact ⟨A, c, h1, h2⟩
theorem num_nil (m : BitVec 64) (xs : List Byte) (hx : onum m = xs) (w : World) : Calls Try.prog 30 #[.slice none 0 0, .int .u64 (nb m)] w fun e w' => ∃ A c, e = .returned (.slice A xs.length c) ∧ Rd w' A xs ∧ FB w w' := by
  refine (oct_Number [] none 0 0 m w rfl (by simp) (Rd.nil _ _)).mono fun e w' ⟨v, h1, h2, h3⟩ => ?_
  rw [List.nil_append, hx] at h2
  obtain ⟨A, c, rfl, h4⟩ := own_str (w := w) h2
  exact ⟨A, c, h1, h4, h3⟩
theorem onum_0 : onum 0#64 = [0#8] := by rw [onum_lt (by decide)]; rfl
theorem onum_128 : onum 128#64 = [128#8, 1#8] := by rw [onum_ge (by decide), onum_lt (by decide)]; decide
theorem onum_300 : onum 300#64 = [172#8, 2#8] := by rw [onum_ge (by decide), onum_lt (by decide)]; decide
theorem num_0 (w : World) : Calls Try.prog 30 #[.slice none 0 0, .int .u64 0] w fun e w' => ∃ A c, e = .returned (.slice A 1 c) ∧ Rd w' A [0#8] ∧ FB w w' := num_nil 0#64 _ onum_0 w
theorem num_128 (w : World) : Calls Try.prog 30 #[.slice none 0 0, .int .u64 128] w fun e w' => ∃ A c, e = .returned (.slice A 2 c) ∧ Rd w' A [128#8, 1#8] ∧ FB w w' := num_nil 128#64 _ onum_128 w
theorem num_300 (w : World) : Calls Try.prog 30 #[.slice none 0 0, .int .u64 300] w fun e w' => ∃ A c, e = .returned (.slice A 2 c) ∧ Rd w' A [172#8, 2#8] ∧ FB w w' := num_nil 300#64 _ onum_300 w
theorem word_258 (w : World) : Calls Try.prog 32 #[.slice none 0 0, .int .u64 258, .int .i64 4] w fun e w' => ∃ A c, e = .returned (.slice A 4 c) ∧ Rd w' A [2#8, 1#8, 0#8, 0#8] ∧ FB w w' := by
  refine (oct_Word [] none 0 0 258#64 4 w rfl (by simp) (by simp [maxLen]) (by simp) (Rd.nil _ _)).mono fun e w' ⟨v, h1, h2, h3⟩ => ?_
  rw [List.nil_append, show owordZ 4 258#64 = [2#8, 1#8, 0#8, 0#8] from by simp [owordZ, oword]] at h2
  obtain ⟨A, c, rfl, h4⟩ := own_str (w := w) h2
  exact ⟨A, c, h1, h4, h3⟩
theorem block_ab (w : World) (B : Option Addr) (hB : Rd w B [97#8, 98#8]) : Calls Try.prog 34 #[.slice none 0 0, .slice B 2 2] w fun e w' => ∃ A c, e = .returned (.slice A 3 c) ∧ Rd w' A [2#8, 97#8, 98#8] ∧ FB w w' := by
  refine (oct_Block [] [97#8, 98#8] none B 0 0 2 2 w rfl rfl (by simp) (by simp) (Rd.nil _ _) hB).mono fun e w' ⟨v, h1, h2, h3⟩ => ?_
  rw [List.nil_append, show oblock [97#8, 98#8] = [2#8, 97#8, 98#8] from by unfold oblock; rw [onum_lt (by decide)]; rfl] at h2
  obtain ⟨A, c, rfl, h4⟩ := own_str (w := w) h2
  exact ⟨A, c, h1, h4, h3⟩
theorem rd_ab (w : World) (t : TypeId) (g : Nat) (hg : g = w.heap.size) : Rd (w.alloc (.cells #[.int .u8 97, .int .u8 98] t (2, 3))) (some ⟨g, 0, none⟩) [97#8, 98#8] := RdV.litF w (vbs [97#8, 98#8]) t (2, 3) hg
theorem rd_800 (w : World) (t : TypeId) (g : Nat) (hg : g = w.heap.size) : Rd (w.alloc (.cells #[.int .u8 128, .int .u8 0] t)) (some ⟨g, 0, none⟩) [128#8, 0#8] := RdV.lit w (vbs [128#8, 0#8]) t hg
theorem rnum_800 : rnum [128#8, 0#8] 0 0#64 = .inl 4 := by decide
set_option maxRecDepth 100000 in
set_option maxHeartbeats 1000000 in
theorem oct_lives (w : World) : Calls Try.prog 29 #[] w fun e w' => e = .returned (.bool true) ∧ Below w.heap.size w w' := by
  have hcv := conv_const
  go_enter Try.func29, Try.ntmps29
  go_wp2_with fail
  refine (oct_New [128#8, 0#8] _ 2 2 _ rfl (by simp) (rd_800 _ _ _ (by simp))).mono ?_
  rintro e w1 ⟨g, rfl, hr, hb⟩
  have HR1 := Lib.hid hr
  have HB1 := Lib.hid (show FB w w1 from ((FB.refl w).alloc _).call hb)
  have HG := Lib.hid (show w.heap.size ≤ g from Nat.le_trans (by simp) hr.bg)
  clear hr hb
  go_wp2_with fail
  refine (num_0 _).mono ?_
  rintro e w2 ⟨A2, c2, rfl, hr, hf⟩
  have HF2 := Lib.hid hf
  have hs2 : (convert 23 9 (.slice A2 1 c2)).run Try.prog w2 = .ok (.string { data := #[0] }) w2 := run_string c2 hr
  clear hr hf
  go_wp2_with fail
  refine (num_128 _).mono ?_
  rintro e w3 ⟨A3, c3, rfl, hr, hf⟩
  have HF3 := Lib.hid (HF2.out.trans hf)
  have hs3 : (convert 23 9 (.slice A3 2 c3)).run Try.prog w3 = .ok (.string { data := #[128, 1] }) w3 := run_string c3 hr
  clear hr hf hs2
  go_wp2_with fail
  refine (num_300 _).mono ?_
  rintro e w4 ⟨A4, c4, rfl, hr, hf⟩
  have HF4 := Lib.hid (HF3.out.trans hf)
  have hs4 : (convert 23 9 (.slice A4 2 c4)).run Try.prog w4 = .ok (.string { data := #[172, 2] }) w4 := run_string c4 hr
  clear hr hf hs3
  go_wp2_with fail
  refine (word_258 _).mono ?_
  rintro e w5 ⟨A5, c5, rfl, hr, hf⟩
  have HF5 := Lib.hid (HF4.out.trans hf)
  have hs5 : (convert 23 9 (.slice A5 4 c5)).run Try.prog w5 = .ok (.string { data := #[2, 1, 0, 0] }) w5 := run_string c5 hr
  clear hr hf hs4
  go_wp2_with fail
  refine (block_ab _ _ (rd_ab _ _ _ (by simp))).mono ?_
  rintro e w6 ⟨A6, c6, rfl, hr, hf⟩
  have HF6 := Lib.hid ((HF5.out.alloc _).trans hf)
  have hs6 : (convert 23 9 (.slice A6 3 c6)).run Try.prog w6 = .ok (.string { data := #[2, 97, 98] }) w6 := run_string c6 hr
  clear hr hf hs5
  have HR6 := Lib.hid (HR1.out.fb HF6.out)
  go_wp2_with fail
  refine (oct_RNumber HR6.out (by simp)).mono ?_
  rintro e w7 ⟨rfl, hr, ht⟩
  rw [List.drop_zero, rnum_800] at hr ⊢
  have HR7 := Lib.hid hr
  have HT7 := Lib.hid ht
  clear hr ht hs6
  rw [show nb (numVal (.inl 4)) = 0 from rfl]
  go_wp2_with fail
  refine (oct_Err HR7.out).mono ?_
  rintro e w8 ⟨rfl, rfl⟩
  rw [show numErr (.inl 4) = 4 from rfl]
  go_wp2
  go_ret
  exact ⟨rfl, (HB1.out.trans HF6.out).tb HT7.out HG.out⟩
end Go.Proofs.Ytegmpejcolmnoaa
