/- the reference of layer 1: a reader of many bytes, and the words of eight bytes that it reads. -/
import Derived.Test.YtihljjfnjclefaaMRta
import Derived.Test.YtihljjfnjclefaaMRtb
import Derived.Test.YtihljjfnjclefaaMRtc
import Derived.Test.YtihljjfnjclefaaMRtd
import Derived.Test.YtihljjfnjclefaaMRte
import Derived.Test.YtihljjfnjclefaaMRtf
import Derived.Test.YtihljjfnjclefaaMRtg
import Derived.Test.YtihljjfnjclefaaMRth
import Derived.Test.YtihljjfnjclefaaMRti
import Derived.Test.YtihljjfnjclefaaMRtj
import Derived.Test.YtihljjfnjclefaaMRtk
import Derived.Test.YtihljjfnjclefaaMRtl
import Derived.Test.YtihljjfnjclefaaMRootDiska
import Derived.Test.YtihljjfnjclefaaMRootDiskb
import Derived.Test.YtihljjfnjclefaaMRootDiskc
set_option linter.unusedVariables false
set_option linter.unusedSimpArgs false
namespace Go.Proofs.Ytihljjfnjclefaa
open Go.ChangeShapes Go.WideShapes Go.ChangeAt Go.RowKit
attribute [local go_sem] nb_nonneg nb_lt8 nb_lt64
set_option maxRecDepth 100000

/-- A reader of the reference: what is left to be read. -/
structure RR (W : World) (g b o c : Nat) (xs : List Byte) : Prop where
  row : W.heap[g]? = some (.cells #[.slice (some ⟨b, o, none⟩) xs.length c, .int .i64 0] 113 (0, 0))
  rd : Rd W (some ⟨b, o, none⟩) xs
  le : xs.length ≤ c
  cm : c ≤ maxLen
  ne : b < g
theorem RR.lt {W : World} {g b o c : Nat} {xs : List Byte} (h : RR W g b o c xs) : g < W.heap.size := (Array.getElem?_eq_some_iff.1 h.row).1
theorem RR.fb {W W' : World} {g b o c : Nat} {xs : List Byte} (h : RR W g b o c xs) (k : FB W W') : RR W' g b o c xs := ⟨(k.block _ h.lt).trans h.row, k.rd h.rd, h.le, h.cm, h.ne⟩
theorem RR.tb {W W' : World} {g g' b o c : Nat} {xs : List Byte} (h : RR W g b o c xs) (k : TB g' W W') (hg : g < g') : RR W' g b o c xs :=
  ⟨(k.out.block _ h.lt (fun e => by simp at e; omega)).trans h.row, k.rd h.rd (fun ad e => by cases e; simp; have := h.ne; omega), h.le, h.cm, h.ne⟩
theorem tbts {g : Nat} {w w' : World} (h : TS [g] w w') : TB g w w' := ⟨h.os, h.tape, h.output, h.size, fun k hk hn => h.block k hk (fun hm => hn (by simp at hm; rw [hm]))⟩
set_option maxHeartbeats 1000000 in
theorem rrl_New (xs : List Byte) (A : Option Addr) (n c : Nat) (w : World) (hn : n = xs.length) (hx : 0 < xs.length) (hl : xs.length ≤ 1000000000) (hr : Rd w A xs) :
    Calls Try.prog 52 #[.slice A n c] w fun e w' => ∃ g b c', e = .returned (.pointer (some ⟨g, 0, none⟩)) ∧ RR w' g b 0 c' xs ∧ w.heap.size ≤ g ∧ FB w w' := by
  subst hn
  have HR := Lib.hid hr
  have HX := Lib.hid hx
  have HL := Lib.hid hl
  clear hr hx hl
  go_enter Try.func52, Try.ntmps52
  go_wp2_with (at_builtin; (refine wpList_append_bytes rfl _ _ rfl w.heap.size _ [] (OwnV.lit _ w [] (by simp)) rfl A c xs rfl (HR.out.alloc _) (by have := HL.out; simp; omega) (by simp) ?_; intro v' w1 ho hg _; obtain ⟨A', c', e', h1, h2, -, -⟩ := Own.form ho; rw [List.nil_append] at e' h1; subst e'; have HO := Lib.hid ho; have HG := Lib.hid hg; have H1 := Lib.hid h1; have H2 := Lib.hid h2; clear ho hg h1 h2))
  go_ret
  obtain ⟨b, rfl, hb1, hb2⟩ := OwnV.head0 HO.out (by rw [vbs_length, List.nil_append]; exact HX.out)
  refine ⟨w1.heap.size, b, c', rfl, ⟨heap_alloc_new _ _, (Own.info HO.out).2.2.1.alloc _, H1.out, H2.out, hb2⟩, ?_, (((FB.refl w).alloc _).grown HG.out (by simp [Value.ownBlock])).alloc _⟩
  have := HG.out.size
  simp at this; omega
set_option maxHeartbeats 1000000 in
theorem rrl_take (n : Nat) (xs : List Byte) (g b o c : Nat) (w : World) (hx : xs.length = n) (h0 : 8 < n) (h : RR w g b o c xs) (hl : n ≤ 100000) :
    Calls Try.prog 72 #[.pointer (some ⟨g, 0, none⟩), .int .i64 8] w fun e w' => ∃ A' c', e = .returned (.tuple #[.slice A' 8 c', .bool true]) ∧ Rd w' A' (xs.take 8) ∧ RR w' g b (o + 8) (c - 8) (xs.drop 8) ∧ TB g w w' := by
  have HX := Lib.hid hx
  have HH := Lib.hid h
  have HT8 := Lib.hid (show (xs.take 8).length = 8 from by rw [List.length_take, hx]; omega)
  have HM := Lib.hid hl
  have hnc := h.le
  rw [hx] at hnc
  have hm2 : (c : Int) ≤ 9223372036854775807 := by have := h.cm; unfold maxLen at this; omega
  have h4z : (8 : Int) ≤ (c : Int) := by omega
  have h5z : (8 : Int) ≤ (n : Int) := by omega
  have h6z : (n : Int) ≤ (c : Int) := by omega
  have h7z : ¬ c = 8 := by omega
  have HNC := Lib.hid (show 8 < n ∧ n ≤ c from by omega)
  have hrow := h.row
  rw [hx] at hrow
  obtain ⟨q0, q1⟩ := row2 hrow
  obtain ⟨r0, r1⟩ := row2 ((((FB.refl w).alloc (.cells #[] 5)).block _ (Array.getElem?_eq_some_iff.1 hrow).1).trans hrow)
  have HROW := Lib.hid hrow
  clear hx hrow h hl h0 hnc
  go_enter Try.func72, Try.ntmps72
  go_upto_region 6 with (at_builtin; refine wpList_append_bytes rfl _ _ rfl w.heap.size _ [] (OwnV.lit _ w [] (by simp)) rfl (some ⟨b, o, none⟩) c (xs.take 8) (by rw [HT8.out]; rfl) ((HH.out.rd.take 8).alloc _) (by simp [HT8.out]) (by simp) ?_; intro v' w1 ho hg _; have HO := Lib.hid ho; have HG := Lib.hid hg; clear ho hg)
  have HO1 := Lib.hid (show Own w1 w.heap.size v' (xs.take 8) from by have := HO.out; rwa [List.nil_append] at this)
  have hfb := ((FB.refl w).alloc (.cells #[] 5)).grown HG.out (by simp [Value.ownBlock])
  have hrow1 := (hfb.block _ (Array.getElem?_eq_some_iff.1 HROW.out).1).trans HROW.out
  have HR1 := Lib.hid hrow1
  obtain ⟨s0, s1⟩ := row2 hrow1
  have sf := frozen_row _ hrow1 0
  have HFB := Lib.hid hfb
  obtain ⟨A', c', e', -, -, h3, -⟩ := Own.form HO1.out
  rw [HT8.out] at e'
  subst e'
  have HRD := Lib.hid h3
  clear q0 q1 r0 r1 HO HG hfb hrow1 h3
  go_wp2_with fail
  go_ret2
  refine ⟨A', c', rfl, TB.rd (TB.set (g := g) w1 0 _) HRD.out (fun ad ha => ?_), ⟨?_, ?_, ?_, ?_, HH.out.ne⟩, (TB.of HFB.out).trans (TB.set (g := g) w1 0 _)⟩
  · have h1 := ((Own.info HO1.out).2.2.2.2 ad ha).1
    have h2 := (Array.getElem?_eq_some_iff.1 HROW.out).1
    omega
  · rw [heap_setCell_same w1 g 0 _ _ _ HR1.out, show (xs.drop 8).length = n - 8 from by rw [List.length_drop, HX.out]]
    rfl
  · exact TB.rd (TB.set (g := g) w1 0 _) ((HFB.out.rd HH.out.rd).drop 8) (fun ad ha => by cases ha; have := HH.out.ne; simp; omega)
  · rw [List.length_drop, HX.out]; have := HNC.out; omega
  · have := HH.out.cm; omega
set_option maxHeartbeats 1000000 in
theorem rrl_Word (n : Nat) (xs : List Byte) (g b o c : Nat) (w : World) (hx : xs.length = n) (h0 : 8 < n) (h : RR w g b o c xs) (hl : n ≤ 100000) :
    Calls Try.prog 53 #[.pointer (some ⟨g, 0, none⟩), .int .i64 8] w fun e w' => e = .returned (.int .u64 (nb (xword (xs.take 8)))) ∧ RR w' g b (o + 8) (c - 8) (xs.drop 8) ∧ TB g w w' := by
  have HC := Lib.hid (rrl_take n xs g b o c w hx h0 h hl)
  have HX := Lib.hid (show (xs.take 8).length = 8 from by rw [List.length_take, hx]; omega)
  obtain ⟨q0, q1⟩ := row2 h.row
  generalize xs.take 8 = xs8 at *
  clear hx h
  go_enter Try.func53, Try.ntmps53
  go_wp2_with fail
  refine HC.out.mono ?_
  rintro e w1 ⟨A', c', rfl, hr, hrr, hts⟩
  have HR := Lib.hid hr
  have HTS := Lib.hid (And.intro hrr hts)
  clear hr hrr hts q0 q1 HC
  go_wp2_with fail
  go_loop [7, 8] (fun s i => ∃ j : Nat, j ≤ 8 ∧ i = .int .i64 j ∧ s = .int .u64 (nb (xword (xs8.take j)))) (fun _ i => 8 - (intOf i).toNat)
  case atStart => exact ⟨0, by omega, rfl, by simp [xword, nb_zero]⟩
  case round =>
    obtain ⟨j, hj, rfl, rfl⟩ := hrel
    by_cases hlt : j < 8
    · obtain ⟨b0, o0, rfl, hb0, hcell⟩ := HR.out.form (by rw [HX.out]; omega)
      have hc := hcell j (by rw [HX.out]; omega)
      have HS := Lib.hid (show xword (xs8.take (j + 1)) = xword (xs8.take j) + ((xs8[j]'(by rw [HX.out]; omega)).setWidth 64) <<< (8 * j) by
        rw [List.take_succ_eq_append_getElem (by rw [HX.out]; omega), xword_add, show (xs8.take j).length = j by rw [List.length_take, HX.out]; omega])
      clear hcell
      have hjx : (j : Int) < 8 := by omega
      generalize xs8[j]'(by rw [HX.out]; omega) = y at *
      generalize xword (xs8.take j) = s at *
      have hsh : IntKind.u64.wrap (nb y * 2 ^ (8 * j)) = nb (y.setWidth 64 <<< (8 * j)) := by rw [← wrap_shl, nb_setWidth y (by omega)]
      have hor := wrap_add64 s (y.setWidth 64 <<< (8 * j))
      unfold vb at hc
      have hwy : IntKind.u64.wrap (nb y) = nb y := by rw [wrap_u64]; exact Int.emod_eq_of_lt (nb_nonneg _) (by have := nb_lt8 y; omega)
      go_wp2
      go_round
      case rel => exact ⟨j + 1, by omega, by go_num, by rw [HS.out, ← hor, ← hsh]⟩
      case measure => simp [intOf]; omega
    · obtain rfl : j = 8 := by omega
      go_wp2
      go_ret
      exact ⟨by rw [List.take_of_length_le (by rw [HX.out]; omega)]; rfl, HTS.out.1, HTS.out.2⟩
end Go.Proofs.Ytihljjfnjclefaa
