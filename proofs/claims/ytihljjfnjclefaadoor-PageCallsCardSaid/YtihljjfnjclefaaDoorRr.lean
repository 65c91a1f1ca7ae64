/- the reference of layer 1: a reader of four bytes, and the word that it reads. -/
import Derived.Test.YtihljjfnjclefaaDoorPgA
set_option linter.unusedVariables false
set_option linter.unusedSimpArgs false
namespace Go.Proofs.YtihljjfnjclefaaDoor
open Go.ChangeShapes Go.WideShapes Go.ChangeAt Go.RowKit
attribute [local go_sem] nb_nonneg nb_lt8 nb_lt64
set_option maxRecDepth 100000

set_option maxHeartbeats 1000000 in
theorem rr_New (xs : List Byte) (A : Option Addr) (c : Nat) (w : World) (hx : xs.length = 4) (hr : Rd w A xs) :
    Calls Tryd.prog 42 #[.slice A 4 c] w fun e w' => ∃ g b c', e = .returned (.pointer (some ⟨g, 0, none⟩)) ∧ w'.heap[g]? = some (.cells #[.slice (some ⟨b, 0, none⟩) 4 c', .int .i64 0] 89 (0, 0)) ∧ Rd w' (some ⟨b, 0, none⟩) xs ∧ 4 ≤ c' ∧ c' ≤ maxLen ∧ b < g ∧ w.heap.size ≤ g ∧ FB w w' := by
  have HR := Lib.hid hr
  have HX := Lib.hid hx
  clear hr hx
  go_enter Tryd.func42, Tryd.ntmps42
  go_wp2_with (at_builtin; (refine wpList_append_bytes rfl _ _ rfl w.heap.size _ [] (OwnV.lit _ w [] (by simp)) rfl A c xs (by rw [HX.out]; rfl) (HR.out.alloc _) (by simp [HX.out]) (by simp) ?_; intro v' w1 ho hg _; obtain ⟨A', c', e', h1, h2, -, -⟩ := Own.form ho; rw [List.nil_append, HX.out] at e' h1; subst e'; have HO := Lib.hid ho; have HG := Lib.hid hg; have H1 := Lib.hid h1; have H2 := Lib.hid h2; clear ho hg h1 h2))
  go_ret
  obtain ⟨b, rfl, hb1, hb2⟩ := OwnV.head0 HO.out (by rw [vbs_length, List.nil_append, HX.out]; omega)
  refine ⟨w1.heap.size, b, c', rfl, heap_alloc_new _ _, (Own.info HO.out).2.2.1.alloc _, H1.out, H2.out, hb2, ?_, (((FB.refl w).alloc _).grown HG.out (by simp [Value.ownBlock])).alloc _⟩
  have := HG.out.size
  simp at this; omega
set_option maxHeartbeats 1000000 in
theorem rr_take (xs : List Byte) (g b c : Nat) (w : World) (hx : xs.length = 4) (hrow : w.heap[g]? = some (.cells #[.slice (some ⟨b, 0, none⟩) 4 c, .int .i64 0] 89 (0, 0))) (hr : Rd w (some ⟨b, 0, none⟩) xs) (h4 : 4 ≤ c) (hm : c ≤ maxLen) :
    Calls Tryd.prog 66 #[.pointer (some ⟨g, 0, none⟩), .int .i64 4] w fun e w' => ∃ A' c', e = .returned (.tuple #[.slice A' 4 c', .bool true]) ∧ Rd w' A' xs ∧ TS [g] w w' := by
  have HR := Lib.hid hr
  have HX := Lib.hid hx
  have HROW := Lib.hid hrow
  have HM := Lib.hid hm
  have hm2 : (c : Int) ≤ 9223372036854775807 := by unfold maxLen at hm; omega
  have h4z : (4 : Int) ≤ (c : Int) := by omega
  obtain ⟨q0, q1⟩ := row2 hrow
  obtain ⟨r0, r1⟩ := row2 ((((FB.refl w).alloc (.cells #[] 5)).block _ (Array.getElem?_eq_some_iff.1 hrow).1).trans hrow)
  clear hr hx hrow hm
  go_enter Tryd.func66, Tryd.ntmps66
  go_upto_region 6 with (at_builtin; refine wpList_append_bytes rfl _ _ rfl w.heap.size _ [] (OwnV.lit _ w [] (by simp)) rfl (some ⟨b, 0, none⟩) c xs (by rw [HX.out]; rfl) (HR.out.alloc _) (by simp [HX.out]) (by simp) ?_; intro v' w1 ho hg _; have HO := Lib.hid ho; have HG := Lib.hid hg; clear ho hg)
  have HO1 := Lib.hid (show Own w1 w.heap.size v' xs from by have := HO.out; rwa [List.nil_append] at this)
  have hfb := ((FB.refl w).alloc (.cells #[] 5)).grown HG.out (by simp [Value.ownBlock])
  have hrow1 := (hfb.block _ (Array.getElem?_eq_some_iff.1 HROW.out).1).trans HROW.out
  obtain ⟨s0, s1⟩ := row2 hrow1
  have sf := frozen_row _ hrow1 0
  have HTS := Lib.hid (fun v0 => show TS [g] w (w1.setCell ⟨g, 0, none⟩ v0) from (TS.of hfb).then (TS.tb (TB.set w1 0 _) (by simp)))
  obtain ⟨A', c', rfl, -, -, h3, -⟩ := Own.form HO1.out
  have HRD := Lib.hid (fun v0 => (show TS [g] w1 (w1.setCell ⟨g, 0, none⟩ v0) from TS.tb (TB.set w1 0 _) (by simp)).rd h3 (fun ad ha hm => by
    have h1 := ((Own.info HO1.out).2.2.2.2 ad ha).1
    have h2 := (Array.getElem?_eq_some_iff.1 HROW.out).1
    simp at hm; omega))
  rw [HX.out]
  clear q0 q1 r0 r1 HO HG HO1 hfb hrow1 HR HROW h3
  by_cases h5 : c = 4
  · subst h5
    go_wp2_with fail
    go_ret2
    exact ⟨A', c', rfl, HRD.out _, HTS.out _⟩
  · have h6 : 4 < c := by omega
    have h7 : (4 : Int) < (c : Int) := by omega
    go_wp2_with fail
    go_ret2
    exact ⟨A', c', rfl, HRD.out _, HTS.out _⟩
set_option maxHeartbeats 1000000 in
theorem rr_Word (xs : List Byte) (g b c : Nat) (w : World) (hx : xs.length = 4) (hrow : w.heap[g]? = some (.cells #[.slice (some ⟨b, 0, none⟩) 4 c, .int .i64 0] 89 (0, 0))) (hr : Rd w (some ⟨b, 0, none⟩) xs) (h4 : 4 ≤ c) (hm : c ≤ maxLen) :
    Calls Tryd.prog 43 #[.pointer (some ⟨g, 0, none⟩), .int .i64 4] w fun e w' => e = .returned (.int .u64 (nb (xword xs))) ∧ TS [g] w w' := by
  have HC := Lib.hid (rr_take xs g b c w hx hrow hr h4 hm)
  have HX := Lib.hid hx
  obtain ⟨q0, q1⟩ := row2 hrow
  clear hx hrow hr h4 hm
  go_enter Tryd.func43, Tryd.ntmps43
  go_wp2_with fail
  refine HC.out.mono ?_
  rintro e w1 ⟨A', c', rfl, hr, hts⟩
  have HR := Lib.hid hr
  have HTS := Lib.hid hts
  clear hr hts q0 q1 HC
  go_wp2_with fail
  go_loop [7, 8] (fun s i => ∃ j : Nat, j ≤ 4 ∧ i = .int .i64 j ∧ s = .int .u64 (nb (xword (xs.take j)))) (fun _ i => 4 - (intOf i).toNat)
  case atStart => exact ⟨0, by omega, rfl, by simp [xword, nb_zero]⟩
  case round =>
    obtain ⟨j, hj, rfl, rfl⟩ := hrel
    by_cases hlt : j < 4
    · obtain ⟨b0, o0, rfl, hb0, hcell⟩ := HR.out.form (by rw [HX.out]; omega)
      have hc := hcell j (by rw [HX.out]; omega)
      have HS := Lib.hid (show xword (xs.take (j + 1)) = xword (xs.take j) + ((xs[j]'(by rw [HX.out]; omega)).setWidth 64) <<< (8 * j) by
        rw [List.take_succ_eq_append_getElem (by rw [HX.out]; omega), xword_add, show (xs.take j).length = j by rw [List.length_take, HX.out]; omega])
      clear hcell
      have hjx : (j : Int) < 4 := by omega
      generalize xs[j]'(by rw [HX.out]; omega) = y at *
      generalize xword (xs.take j) = s at *
      have hsh : IntKind.u64.wrap (nb y * 2 ^ (8 * j)) = nb (y.setWidth 64 <<< (8 * j)) := by rw [← wrap_shl, nb_setWidth y (by omega)]
      have hor := wrap_add64 s (y.setWidth 64 <<< (8 * j))
      unfold vb at hc
      have hwy : IntKind.u64.wrap (nb y) = nb y := by rw [wrap_u64]; exact Int.emod_eq_of_lt (nb_nonneg _) (by have := nb_lt8 y; omega)
      go_wp2
      go_round
      case rel => exact ⟨j + 1, by omega, by go_num, by rw [HS.out, ← hor, ← hsh]⟩
      case measure => simp [intOf]; omega
    · obtain rfl : j = 4 := by omega
      go_wp2
      go_ret
      exact ⟨by rw [List.take_of_length_le (by rw [HX.out]; omega)]; rfl, HTS.out⟩
end Go.Proofs.YtihljjfnjclefaaDoor
