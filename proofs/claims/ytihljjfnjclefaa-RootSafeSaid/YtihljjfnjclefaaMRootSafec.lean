/- Walks and laws that the claim's last text stands on, several texts in one file: RtG, RtKc, RowC. Under the hypotheses that each theorem states. -/
import Derived.Laws.CopyOwn
import Derived.Lib.SmallJoins
import Derived.Deep.Slices
import Derived.Test.YtihljjfnjclefaaMRta
import Derived.Test.YtihljjfnjclefaaMRtb
import Derived.Test.YtihljjfnjclefaaMRtc
import Derived.Test.YtihljjfnjclefaaMRtd
import Derived.Test.YtihljjfnjclefaaMRte
import Derived.Test.YtihljjfnjclefaaMRtf
import Derived.Test.YtihljjfnjclefaaMRtg
import Derived.Test.YtihljjfnjclefaaMRth
import Derived.Test.YtihljjfnjclefaaMRti
import Derived.Test.YtihljjfnjclefaaMRtj
import Derived.Test.YtihljjfnjclefaaMRtk
import Derived.Test.YtihljjfnjclefaaMRtl
import Derived.Test.YtihljjfnjclefaaMRootSafea
import Derived.Test.YtihljjfnjclefaaMRootSafeb
/- root: the walk through Read of the reference. -/
set_option linter.unusedVariables false
set_option linter.unusedSimpArgs false
namespace Go.Proofs.Ytihljjfnjclefaa
open Go.ChangeShapes Go.WideShapes Go.ChangeAt Go.RowKit
attribute [local go_sem] nb_nonneg nb_lt8 nb_lt64
set_option maxRecDepth 100000

/-- A reader of the reference, and how many words it has read. -/
def RRx (W : World) (g : Nat) (x : List Byte) (j : Nat) : Prop := ∃ b o c, RR W g b o c (x.drop (8 * j))
theorem RRx.lt {W : World} {g j : Nat} {x : List Byte} (h : RRx W g x j) : g < W.heap.size := by obtain ⟨b, o, c, h⟩ := h; exact h.lt
theorem RRx.fb {W W' : World} {g j : Nat} {x : List Byte} (h : RRx W g x j) (k : FB W W') : RRx W' g x j := by obtain ⟨b, o, c, h⟩ := h; exact ⟨b, o, c, h.fb k⟩
theorem RRx.tb {W W' : World} {g g' j : Nat} {x : List Byte} (h : RRx W g x j) (k : TB g' W W') (hg : g < g') : RRx W' g x j := by obtain ⟨b, o, c, h⟩ := h; exact ⟨b, o, c, h.tb k hg⟩
theorem rr_step {g : Nat} {x : List Byte} {W : World} (j : Nat) (h : RRx W g x j) (hn : 8 * j + 8 < x.length) (hl : x.length ≤ 5000) :
    Calls Try.prog 53 #[.pointer (some ⟨g, 0, none⟩), .int .i64 8] W fun e w' => e = .returned (.int .u64 (nb (rw8 x j))) ∧ RRx w' g x (j + 1) ∧ TB g W w' := by
  obtain ⟨b, o, c, h⟩ := h
  refine (rrl_Word _ _ g b o c W rfl (by rw [List.length_drop]; omega) h (by rw [List.length_drop]; omega)).mono (fun e w' k => ⟨k.1, ⟨b, o + 8, c - 8, ?_⟩, k.2.2⟩)
  have q := k.2.1
  rwa [List.drop_drop, show 8 * j + 8 = 8 * (j + 1) by omega] at q
set_option maxHeartbeats 8000000 in
theorem r6_Read (b : List Byte) (A : Option Addr) (c : Nat) (w : World) (hl : b.length ≤ 1000000000) (hc : b.length ≤ c) (hm : c ≤ maxLen) (hr : Rd w A b) :
    Calls Try.prog 25 #[.slice A b.length c] w fun e w' => e = .returned (.tuple #[rtV (rtR b).1, .int .i64 (rtR b).2]) ∧ FB w w' := by
  obtain ⟨W1, hW1⟩ : ∃ W1 : World, W1 = w.alloc (.cells (rtCs rt0) 29) := ⟨_, rfl⟩
  have HS := Lib.hid (show RdSt w W1 w.heap.size from by rw [hW1]; exact ⟨(FB.refl w).alloc _, heap_alloc_new w _, Nat.le_refl _⟩)
  have HW1 := Lib.hid hW1
  have HC1 := Lib.hid (r5_Read b A c W1 hl hc hm (HS.out.fb.rd hr))
  obtain ⟨R, hR⟩ : ∃ R, R = rtR b := ⟨_, rfl⟩
  rw [← hR]
  have HFAR := Lib.hid (fun h => hR.trans (@rtR_far b h))
  have HZ := Lib.hid (@pgR_zero b)
  unfold rtR at hR
  generalize pgR b = p at *
  obtain ⟨⟨K, n, x⟩, er⟩ := p
  simp only at hR
  have HR := Lib.hid hR
  have HRB := Lib.hid hr
  clear hW1 hR hl hc hm hr
  have hrs : ∀ W, FB w W → (convert 22 9 (.slice A b.length c)).run Try.prog W = .ok (.string (sb b)) W := fun W h => run_string c (h.rd HRB.out)
  have HSB := Lib.hid hrs
  clear hrs
  go_enter Try.func25, Try.ntmps25
  go_upto_region 1 with fail
  rw [← rt0_cs, ← HW1.out]
  clear HW1
  go_wp2_with fail
  refine HC1.out.mono ?_
  rintro e w1 ⟨A1, c1, rfl, hrx, hx1, hxm, hb⟩
  simp only at hrx hx1
  have HRX := Lib.hid hrx
  have HX := Lib.hid (And.intro hx1 hxm)
  have HS1 := Lib.hid (HS.out.fbn hb)
  clear hrx hx1 hxm hb HS HC1
  obtain ⟨W2, hW2⟩ : ∃ W2 : World, W2 = w1.alloc (.cells #[.int .i64 K, .int .u32 (nb n), .slice A1 x.length c1] 71) := ⟨_, rfl⟩
  have HS2 := Lib.hid (show RdSt w W2 w.heap.size from by rw [hW2]; exact HS1.out.fbn ((FB.refl _).alloc _))
  have HRX2 := Lib.hid (show Rd W2 A1 x from by rw [hW2]; exact HRX.out.alloc _)
  obtain ⟨p0, p1, p2⟩ := prow3 (heap_alloc_new w1 (.cells #[.int .i64 K, .int .u32 (nb n), .slice A1 x.length c1] 71))
  rw [← hW2] at p0 p1 p2
  have HW2 := Lib.hid hW2
  clear hW2 HS1 HRX
  have hs0 := rt_store rt0 rt0 HS2.out.row
  unfold rtV at hs0
  rw [rt0_cs] at hs0
  have HE0 := Lib.hid (show FB w (W2.setRow w.heap.size (rtCs rt0)) ∧ (W2.setRow w.heap.size (rtCs rt0)).heap[w.heap.size]? = some (.cells (rtCs rt0) 29 (0, 0)) from ⟨HS2.out.fb.setRow (Nat.le_refl _) _, setRow_heap _ _ _ (rtCs rt0) _ _ HS2.out.row⟩)
  by_cases her : er = 0
  · subst her
    by_cases hK : K = 1
    · subst hK
      have HXL := Lib.hid (show x.length = 4080 from HZ.out rfl)
      clear hs0 HE0 HFAR HZ
      go_upto_region 4 with fail
      rw [← HW2.out]
      clear HW2
      have hnw := rrl_New x A1 4080 c1 W2 HXL.out.symm (by rw [HXL.out]; omega) (by rw [HXL.out]; omega) HRX2.out
      have HNW := Lib.hid hnw
      rw [HXL.out] at p2
      clear hnw
      go_wp2_with fail
      refine HNW.out.mono ?_
      rintro e w3 ⟨g, b3, c3, rfl, hrr, hge, hb⟩
      have HS3 := Lib.hid (HS2.out.fbn hb)
      have HD3 := Lib.hid (show RRx w3 g x 0 from ⟨b3, 0, c3, hrr⟩)
      have HNG := Lib.hid (show w.heap.size < g from Nat.lt_of_lt_of_le HS2.out.lt hge)
      clear hrr hge hb HNW HS2 HRX2 p0 p1 p2
      obtain ⟨W4, hW4⟩ : ∃ W4 : World, W4 = w3.alloc (.cells (rtCs rt0) 29) := ⟨_, rfl⟩
      have HS4 := Lib.hid (show RdSt w W4 w.heap.size from by rw [hW4]; exact HS3.out.fbn ((FB.refl _).alloc _))
      have HD4 := Lib.hid (show RRx W4 g x 0 from by rw [hW4]; exact HD3.out.fb ((FB.refl _).alloc _))
      have HG4 := Lib.hid (show W4.heap[w3.heap.size]? = some (.cells (rtCs rt0) 29 (0, 0)) from by rw [hW4]; exact heap_alloc_new w3 _)
      have HGG := Lib.hid (show g < w3.heap.size from HD3.out.lt)
      have HW4 := Lib.hid hW4
      clear hW4 HS3 HD3
      go_upto_region 6 with fail
      rw [← rt0_cs, ← HW4.out]
      clear HW4
      have hcw := rr_step 0 HD4.out (by rw [HXL.out]; omega) (by rw [HXL.out]; omega)
      have HC := Lib.hid hcw
      clear hcw
      go_wp2_with fail
      refine HC.out.mono ?_
      rintro e w5 ⟨rfl, hrd, hb⟩
      have HS5 := Lib.hid (HS4.out.tb hb HNG.out)
      have HD5 := Lib.hid hrd
      have HG5 := Lib.hid ((hb.out.block _ (Array.getElem?_eq_some_iff.1 HG4.out).1 (fun e => by have := HGG.out; simp at e; omega)).trans HG4.out)
      clear hrd hb HC HS4 HD4 HG4
      have hcw := rr_step 1 HD5.out (by rw [HXL.out]; omega) (by rw [HXL.out]; omega)
      have HC := Lib.hid hcw
      clear hcw
      go_wp2_with fail
      refine HC.out.mono ?_
      rintro e w6 ⟨rfl, hrd, hb⟩
      have HS6 := Lib.hid (HS5.out.tb hb HNG.out)
      have HD6 := Lib.hid hrd
      have HG6 := Lib.hid ((hb.out.block _ (Array.getElem?_eq_some_iff.1 HG5.out).1 (fun e => by have := HGG.out; simp at e; omega)).trans HG5.out)
      clear hrd hb HC HS5 HD5 HG5
      have hcw := rr_step 2 HD6.out (by rw [HXL.out]; omega) (by rw [HXL.out]; omega)
      have HC := Lib.hid hcw
      clear hcw
      go_wp2_with fail
      refine HC.out.mono ?_
      rintro e w7 ⟨rfl, hrd, hb⟩
      have HS7 := Lib.hid (HS6.out.tb hb HNG.out)
      have HD7 := Lib.hid hrd
      have HG7 := Lib.hid ((hb.out.block _ (Array.getElem?_eq_some_iff.1 HG6.out).1 (fun e => by have := HGG.out; simp at e; omega)).trans HG6.out)
      clear hrd hb HC HS6 HD6 HG6
      have hcw := rr_step 3 HD7.out (by rw [HXL.out]; omega) (by rw [HXL.out]; omega)
      have HC := Lib.hid hcw
      clear hcw
      go_wp2_with fail
      refine HC.out.mono ?_
      rintro e w8 ⟨rfl, hrd, hb⟩
      have HS8 := Lib.hid (HS7.out.tb hb HNG.out)
      have HD8 := Lib.hid hrd
      have HG8 := Lib.hid ((hb.out.block _ (Array.getElem?_eq_some_iff.1 HG7.out).1 (fun e => by have := HGG.out; simp at e; omega)).trans HG7.out)
      clear hrd hb HC HS7 HD7 HG7
      have hcw := rr_step 4 HD8.out (by rw [HXL.out]; omega) (by rw [HXL.out]; omega)
      have HC := Lib.hid hcw
      clear hcw
      go_wp2_with fail
      refine HC.out.mono ?_
      rintro e w9 ⟨rfl, hrd, hb⟩
      have HS9 := Lib.hid (HS8.out.tb hb HNG.out)
      have HD9 := Lib.hid hrd
      have HG9 := Lib.hid ((hb.out.block _ (Array.getElem?_eq_some_iff.1 HG8.out).1 (fun e => by have := HGG.out; simp at e; omega)).trans HG8.out)
      clear hrd hb HC HS8 HD8 HG8
      generalize w3.heap.size = gR at *
      obtain ⟨q0, q1, q2, q3, q4, -⟩ := prow9 HG9.out
      have f0 := frozen_row _ HG9.out 0
      have f1 := frozen_row _ HG9.out 1
      have f2 := frozen_row _ HG9.out 2
      have f3 := frozen_row _ HG9.out 3
      have f4 := frozen_row _ HG9.out 4
      obtain ⟨WA, hWA⟩ : ∃ WA : World, WA = ((((w9.setCell ⟨gR, 0, none⟩ (.int .u64 (nb (rw8 x 0)))).setCell ⟨gR, 1, none⟩ (.int .u64 (nb (rw8 x 1)))).setCell ⟨gR, 2, none⟩ (.int .u64 (nb (rw8 x 2)))).setCell ⟨gR, 3, none⟩ (.int .u64 (nb (rw8 x 3)))).setCell ⟨gR, 4, none⟩ (.int .u64 (nb (rw8 x 4))) := ⟨_, rfl⟩
      have HTA := Lib.hid (show TB gR w9 WA from by rw [hWA]; exact ((((TB.set w9 0 _).trans (TB.set _ 1 _)).trans (TB.set _ 2 _)).trans (TB.set _ 3 _)).trans (TB.set _ 4 _))
      have HGA := Lib.hid (show WA.heap[gR]? = some (.cells (rtCs (rtPart x 0)) 29 (0, 0)) from by
        rw [hWA]
        have h0 := heap_setCell_same w9 gR 0 _ _ (.int .u64 (nb (rw8 x 0))) HG9.out
        have h1 := heap_setCell_same _ gR 1 _ _ (.int .u64 (nb (rw8 x 1))) h0
        have h2 := heap_setCell_same _ gR 2 _ _ (.int .u64 (nb (rw8 x 2))) h1
        have h3 := heap_setCell_same _ gR 3 _ _ (.int .u64 (nb (rw8 x 3))) h2
        have h4 := heap_setCell_same _ gR 4 _ _ (.int .u64 (nb (rw8 x 4))) h3
        rw [h4]; rfl)
      have HWA := Lib.hid hWA
      have HSA := Lib.hid (HS9.out.tb HTA.out (by have := HGG.out; have := HNG.out; omega))
      have HDA := Lib.hid (HD9.out.tb HTA.out HGG.out)
      clear hWA HTA HS9 HD9
      go_upto_region 7 with fail
      rw [← HWA.out]
      clear HWA HG9 q0 q1 q2 q3 q4 f0 f1 f2 f3 f4
      go_wp2_with fail
      go_loopw [8] (fun i wr => ∃ k : Nat, k ≤ 4 ∧ i = .int .i64 k ∧ Hid (RRx wr g x (5 + k)) ∧ Hid (wr.heap[gR]? = some (.cells (rtCs (rtPart x k)) 29 (0, 0))) ∧ Hid (RdSt w wr w.heap.size)) (fun i _ => 4 - (intOf i).toNat)
      case atStart => exact ⟨0, by omega, rfl, HDA, HGA, HSA⟩
      case round =>
        obtain ⟨k, hk, rfl, HD, HG, HS⟩ := hrel
        rcases (show k = 0 ∨ k = 1 ∨ k = 2 ∨ k = 3 ∨ k = 4 by omega) with rfl | rfl | rfl | rfl | rfl
        · have hcw := rr_step (5 + 0) HD.out (by rw [HXL.out]; omega) (by rw [HXL.out]; omega)
          have HC := Lib.hid hcw
          clear hcw
          go_wp2_with fail
          refine HC.out.mono ?_
          rintro e wq ⟨rfl, hrd, hb⟩
          have HSq := Lib.hid (HS.out.tb hb HNG.out)
          have HDq := Lib.hid hrd
          have hgq := (hb.out.block _ (Array.getElem?_eq_some_iff.1 HG.out).1 (fun e => by have := HGG.out; simp at e; omega)).trans HG.out
          have HGq := Lib.hid hgq
          have hq := (prow9 hgq).2.2.2.2.2.1
          have hfz := frozen_row _ hgq 5
          clear hrd hb HC hgq
          go_wp2_with fail
          go_round
          case rel =>
            refine ⟨1, by omega, rfl, Lib.hid (HDq.out.tb (TB.set (g := gR) wq 5 _) HGG.out), Lib.hid ?_, Lib.hid (HSq.out.tb (TB.set (g := gR) wq 5 _) (by have := HGG.out; have := HNG.out; omega))⟩
            rw [heap_setCell_same wq gR 5 _ _ _ HGq.out]
            rfl
          case measure => simp [intOf]
        · have hcw := rr_step (5 + 1) HD.out (by rw [HXL.out]; omega) (by rw [HXL.out]; omega)
          have HC := Lib.hid hcw
          clear hcw
          go_wp2_with fail
          refine HC.out.mono ?_
          rintro e wq ⟨rfl, hrd, hb⟩
          have HSq := Lib.hid (HS.out.tb hb HNG.out)
          have HDq := Lib.hid hrd
          have hgq := (hb.out.block _ (Array.getElem?_eq_some_iff.1 HG.out).1 (fun e => by have := HGG.out; simp at e; omega)).trans HG.out
          have HGq := Lib.hid hgq
          have hq := (prow9 hgq).2.2.2.2.2.2.1
          have hfz := frozen_row _ hgq 6
          clear hrd hb HC hgq
          go_wp2_with fail
          go_round
          case rel =>
            refine ⟨2, by omega, rfl, Lib.hid (HDq.out.tb (TB.set (g := gR) wq 6 _) HGG.out), Lib.hid ?_, Lib.hid (HSq.out.tb (TB.set (g := gR) wq 6 _) (by have := HGG.out; have := HNG.out; omega))⟩
            rw [heap_setCell_same wq gR 6 _ _ _ HGq.out]
            rfl
          case measure => simp [intOf]
        · have hcw := rr_step (5 + 2) HD.out (by rw [HXL.out]; omega) (by rw [HXL.out]; omega)
          have HC := Lib.hid hcw
          clear hcw
          go_wp2_with fail
          refine HC.out.mono ?_
          rintro e wq ⟨rfl, hrd, hb⟩
          have HSq := Lib.hid (HS.out.tb hb HNG.out)
          have HDq := Lib.hid hrd
          have hgq := (hb.out.block _ (Array.getElem?_eq_some_iff.1 HG.out).1 (fun e => by have := HGG.out; simp at e; omega)).trans HG.out
          have HGq := Lib.hid hgq
          have hq := (prow9 hgq).2.2.2.2.2.2.2.1
          have hfz := frozen_row _ hgq 7
          clear hrd hb HC hgq
          go_wp2_with fail
          go_round
          case rel =>
            refine ⟨3, by omega, rfl, Lib.hid (HDq.out.tb (TB.set (g := gR) wq 7 _) HGG.out), Lib.hid ?_, Lib.hid (HSq.out.tb (TB.set (g := gR) wq 7 _) (by have := HGG.out; have := HNG.out; omega))⟩
            rw [heap_setCell_same wq gR 7 _ _ _ HGq.out]
            rfl
          case measure => simp [intOf]
        · have hcw := rr_step (5 + 3) HD.out (by rw [HXL.out]; omega) (by rw [HXL.out]; omega)
          have HC := Lib.hid hcw
          clear hcw
          go_wp2_with fail
          refine HC.out.mono ?_
          rintro e wq ⟨rfl, hrd, hb⟩
          have HSq := Lib.hid (HS.out.tb hb HNG.out)
          have HDq := Lib.hid hrd
          have hgq := (hb.out.block _ (Array.getElem?_eq_some_iff.1 HG.out).1 (fun e => by have := HGG.out; simp at e; omega)).trans HG.out
          have HGq := Lib.hid hgq
          have hq := (prow9 hgq).2.2.2.2.2.2.2.2
          have hfz := frozen_row _ hgq 8
          clear hrd hb HC hgq
          go_wp2_with fail
          go_round
          case rel =>
            refine ⟨4, by omega, rfl, Lib.hid (HDq.out.tb (TB.set (g := gR) wq 8 _) HGG.out), Lib.hid ?_, Lib.hid (HSq.out.tb (TB.set (g := gR) wq 8 _) (by have := HGG.out; have := HNG.out; omega))⟩
            rw [heap_setCell_same wq gR 8 _ _ _ HGq.out]
            rfl
          case measure => simp [intOf]
        · obtain ⟨s, hs⟩ : ∃ s, s = rtOf x := ⟨_, rfl⟩
          have HG2 := Lib.hid (show wr.heap[gR]? = some (.cells (rtCs s) 29 (0, 0)) from by rw [hs]; exact HG.out)
          rw [← hs] at HR
          obtain ⟨q0, q1, q2, q3, q4, q5, q6, q7, q8⟩ := prow9 HG2.out
          have hcb := r6_Bytes s wr
          unfold rtV rtCs at hcb
          generalize hys : rtB s = yb at *
          obtain ⟨ys, eb⟩ := yb
          have HC := Lib.hid hcb
          clear hcb hs hys HG
          go_wp2_with fail
          refine HC.out.mono ?_
          rintro e w5 ⟨A5, c5, rfl, ho, hb⟩
          simp only at ho
          have HO5 := Lib.hid ho
          have HS5 := Lib.hid (HS.out.fbn hb)
          have HG5 := Lib.hid ((hb.block _ (Array.getElem?_eq_some_iff.1 HG2.out).1).trans HG2.out)
          clear ho hb HC HS HG2 HD q0 q1 q2 q3 q4 q5 q6 q7 q8
          have hs0 := rt_store rt0 rt0 HS5.out.row
          unfold rtV at hs0
          rw [rt0_cs] at hs0
          have HE0 := Lib.hid (show FB w (w5.setRow w.heap.size (rtCs rt0)) ∧ (w5.setRow w.heap.size (rtCs rt0)).heap[w.heap.size]? = some (.cells (rtCs rt0) 29 (0, 0)) from ⟨HS5.out.fb.setRow (Nat.le_refl _) _, setRow_heap _ _ _ (rtCs rt0) _ _ HS5.out.row⟩)
          by_cases heb : eb = 0
          · subst heb
            have hs1 := run_string c5 (Own.info HO5.out).2.2.1
            have hs2 := HSB.out w5 HS5.out.fb
            by_cases hyb : ys = b
            · have hse : ((sb ys).toList == (sb b).toList) = true := by rw [sb_beq]; simpa using hyb
              have HRR := Lib.hid (show R = (s, 0) from by rw [HR.out, if_pos ⟨trivial, trivial, by rw [hyb]⟩])
              obtain ⟨q0, q1, q2, q3, q4, q5, q6, q7, q8⟩ := prow9 HG5.out
              have hst := rt_store rt0 s HS5.out.row
              have HEs := Lib.hid (show FB w (w5.setRow w.heap.size (rtCs s)) ∧ (w5.setRow w.heap.size (rtCs s)).heap[w.heap.size]? = some (.cells (rtCs s) 29 (0, 0)) from ⟨HS5.out.fb.setRow (Nat.le_refl _) _, setRow_heap _ _ _ (rtCs s) _ _ HS5.out.row⟩)
              unfold rtV rtCs at hst
              clear hyb hs0 HE0
              go_wp2_with (refine wpList_store_by rfl _ _ _ rfl _ hst ?_)
              try simp only [Exit.inBlock, Exit.then]
              refine bodyPost_ret (rt_ret rfl _ w.heap.size rfl _ HEs.out.2) rfl ?_
              rw [HRR.out]
              exact ⟨rfl, HEs.out.1⟩
            · have hse : ((sb ys).toList == (sb b).toList) = false := by rw [sb_beq]; simpa using hyb
              have HRR := Lib.hid (show R = (rt0, 4) from by rw [HR.out, if_neg (fun h => hyb (congrArg Prod.fst h.2.2))])
              clear hyb
              go_wp2_with (refine wpList_store_by rfl _ _ _ rfl _ hs0 ?_)
              try simp only [Exit.inBlock, Exit.then]
              refine bodyPost_ret (rt_ret rfl _ w.heap.size rfl _ HE0.out.2) rfl ?_
              rw [HRR.out]
              exact ⟨rfl, HE0.out.1⟩
          · have hkb : (eb != 0) = true := by simpa using heb
            have HRR := Lib.hid (show R = (rt0, 4) from by rw [HR.out, if_neg (fun h => heb (congrArg Prod.snd h.2.2))])
            clear heb
            go_wp2_with (refine wpList_store_by rfl _ _ _ rfl _ hs0 ?_)
            try simp only [Exit.inBlock, Exit.then]
            refine bodyPost_ret (rt_ret rfl _ w.heap.size rfl _ HE0.out.2) rfl ?_
            rw [HRR.out]
            exact ⟨rfl, HE0.out.1⟩
    · have hkb : (K != 1) = true := by simpa using hK
      have HRR := Lib.hid (show R = (rt0, 4) from HFAR.out (.inr hK))
      clear hK
      go_upto_region 2 with fail
      rw [← HW2.out]
      clear HW2
      go_wp2_with (refine wpList_store_by rfl _ _ _ rfl _ hs0 ?_)
      try simp only [Exit.inBlock, Exit.then]
      refine bodyPost_ret (rt_ret rfl _ w.heap.size rfl _ HE0.out.2) rfl ?_
      rw [HRR.out]
      exact ⟨rfl, HE0.out.1⟩
  · have hkb : (er != 0) = true := by simpa using her
    have HRR := Lib.hid (show R = (rt0, 4) from HFAR.out (.inl her))
    clear her
    go_upto_region 2 with fail
    rw [← HW2.out]
    clear HW2
    go_wp2_with (refine wpList_store_by rfl _ _ _ rfl _ hs0 ?_)
    try simp only [Exit.inBlock, Exit.then]
    refine bodyPost_ret (rt_ret rfl _ w.heap.size rfl _ HE0.out.2) rfl ?_
    rw [HRR.out]
    exact ⟨rfl, HE0.out.1⟩
end Go.Proofs.Ytihljjfnjclefaa
/- The walks through tallymankit.Crash and LightCrash (as KCr, beside the texts of roots). -/
set_option linter.unusedVariables false
set_option linter.unusedSimpArgs false
namespace Go.Proofs.Ytihljjfnjclefaa
open Go.ChangeShapes Go.WideShapes Go.ChangeAt Go.RowKit Go.MapKept

theorem info_bool : (Try.prog.info? 4).map (fun i => (i.zero, i.size, i.bytes)) = some (some (.bool false), 1, 1) := by kernel_rfl
theorem store_crash {W : World} {g : Nat} {a b c : Value} (x y z : Value) (h : W.heap[g]? = some (.cells #[a, b, c] 52 (0, 0))) (h1 : (#[x, y, z]).all (·.oneCell') = true) :
    (Instr.storeAt 52 (.pointer (some ⟨g, 0, none⟩)) (.agg #[x, y, z])).run Try.prog W = .ok () (W.setRow g #[x, y, z]) := by
  simp only [Instr.storeAt, Instr.sureAddr, Sem.run_bind, Sem.run_pure, Result.andThen]
  exact run_storeVar_row W g _ _ _ _ h (by kernel_rfl) rfl h1
set_option maxRecDepth 100000 in
set_option maxHeartbeats 1000000 in
theorem kit_Crash (KA : Option Addr) (ks : List Bool) (kc : Nat) (T Y : Int) (w : World) (hr : RdV w KA (ks.map .bool)) (hl : ks.length ≤ 1000000000) :
    Calls Try.prog 33 #[.agg #[.slice KA ks.length kc, .int .i64 T, .int .i64 Y]] w fun e w' => ∃ A c, e = .returned (.agg #[.slice A ks.length c, .int .i64 T, .int .i64 Y]) ∧ RdV w' A (ks.map .bool) ∧ FB w w' ∧ ∀ ad, A = some ad → w.heap.size ≤ ad.block := by
  have HR := Lib.hid hr
  have HL := Lib.hid hl
  clear hr hl
  go_enter Try.func33, Try.ntmps33
  go_wp2_with fail
  have HFa := Lib.hid (((FB.refl w).alloc (.cells #[.slice KA ks.length kc, .int .i64 T, .int .i64 Y] 52)).alloc (.cells #[.slice none 0 0, .int .i64 0, .int .i64 0] 52))
  have HBXa := Lib.hid (show ((w.alloc (.cells #[.slice KA ks.length kc, .int .i64 T, .int .i64 Y] 52)).alloc (.cells #[.slice none 0 0, .int .i64 0, .int .i64 0] 52)).heap[w.heap.size]? = some (.cells #[.slice KA ks.length kc, .int .i64 T, .int .i64 Y] 52 (0, 0)) from by
    rw [((FB.refl (w.alloc (.cells #[.slice KA ks.length kc, .int .i64 T, .int .i64 Y] 52))).alloc _).block _ (by simp)]; exact heap_alloc_new _ _)
  have HRWa := Lib.hid (show ((w.alloc (.cells #[.slice KA ks.length kc, .int .i64 T, .int .i64 Y] 52)).alloc (.cells #[.slice none 0 0, .int .i64 0, .int .i64 0] 52)).heap[w.heap.size + 1]? = some (.cells #[.slice none 0 0, .int .i64 0, .int .i64 0] 52 (0, 0)) from by
    have := heap_alloc_new (w.alloc (.cells #[.slice KA ks.length kc, .int .i64 T, .int .i64 Y] 52)) (.cells #[.slice none 0 0, .int .i64 0, .int .i64 0] 52)
    simpa using this)
  have HRa := Lib.hid (HFa.out.rdV HR.out)
  generalize (w.alloc (.cells #[.slice KA ks.length kc, .int .i64 T, .int .i64 Y] 52)).alloc (.cells #[.slice none 0 0, .int .i64 0, .int .i64 0] 52) = W0 at *
  refine region_schL (E := Below (W0.heap.size)) 9 ((1, true) :: (2, true) :: (4, true) :: (5, true) :: (6, true) :: (7, true) :: (0, false) :: (3, false) :: (8, false) :: []) (by kernel_rfl) (Below.refl _) (fun _ _ _ h k => Below.trans h k) (fun _ _ d _ _ h => by cases d <;> exact h) (by kernel_rfl) ?_
  intro ops hops0
  have hops := Lib.hid hops0
  clear hops0
  have HF : Below (W0.heap.size) W0 W0.drew := (Below.refl _ _).drew
  generalize W0.drew = wF at *
  repeat (refine sch_take (o := ?_) (v := ?_) (a' := ?_) (at_of hops.out ?_) ?_ (fun W hW => ?_) ?_ ?_; rotate_left 3; (focus (simp only [List.getElem?_toArray, List.getElem?_cons_zero, List.getElem?_cons_succ]; rfl)); (focus (rw [hops.out]; rfl)); (focus (obtain ⟨q0, q1, q2⟩ := row3 ((Below.block (HF.trans hW) _ (Array.getElem?_eq_some_iff.1 HBXa.out).1).trans HBXa.out); go_simp; with_reducible rfl)); (focus (simp only [Act.put, List.setIfInBounds_toArray, List.set_cons_zero, List.set_cons_succ]; rfl)))
  have hle : W0.heap.size ≤ wF.heap.size := Below.size HF
  have HLE := Lib.hid hle
  clear hle
  (refine sch_run (o := ?_) (v := ?_) (a' := ?_) (w' := ?_) (at_of hops.out ?_) ?_ ?_ ?_ ?_ ?_; rotate_left 4; (focus (simp only [List.getElem?_toArray, List.getElem?_cons_zero, List.getElem?_cons_succ]; rfl)); (focus (rw [hops.out]; rfl)); (focus (go_simp; constructor <;> with_reducible rfl)); (focus (exact (Below.refl _ _).alloc HLE.out _)); (focus (simp only [Act.put, List.setIfInBounds_toArray, List.set_cons_zero, List.set_cons_succ]; rfl)))
  (refine sch_append (o := ?_) (at_of hops.out ?_) ?_ (.tmp 3) (.tmp 5) 50 4 1 (.bool false) Try.underlying50 info_bool rfl ?_ wF.heap.size _ [] (OwnV.lit _ wF [] (by simp)) ?_ KA ks.length kc (ks.map .bool) (by rw [List.length_map]) ?_ ((RdV.below HRa.out (Below.mono HF (Nat.le_refl _))).alloc _) (fun u hu => by obtain ⟨b, -, rfl⟩ := List.mem_map.1 hu; rfl) (by have := HL.out; simp [maxLen]; omega) (by have := HL.out; simp; omega) (by simp) ?_; rotate_left 1; (focus (simp only [List.getElem?_toArray, List.getElem?_cons_zero, List.getElem?_cons_succ]; rfl)); (focus (rw [hops.out]; rfl)); (focus rfl); (focus rfl); (focus rfl))
  intro v' w' ho hg _
  have hE : Below W0.heap.size (wF.alloc (.cells #[] 4)) w' := (Below.refl _ _).grown hg (by have := HLE.out; simp; omega) (fun k hk => by cases hk; exact HLE.out)
  obtain ⟨A', c', rfl, h1, h2, h3, h4⟩ := OwnV.form ho
  rw [List.nil_append] at h3
  have HE := Lib.hid hE
  have HR3 := Lib.hid h3
  have HA4 := Lib.hid (fun ad (ha : A' = some ad) => show w.heap.size + 1 < ad.block from by have h5 := (Array.getElem?_eq_some_iff.1 HRWa.out).1; have h6 := (h4 ad ha).1; have h7 := HLE.out; omega)
  have HA3 := Lib.hid (fun ad (ha : A' = some ad) => Nat.le_trans (HFa.out.le) (Nat.le_trans HLE.out (h4 ad ha).1))
  clear ho hg hE h1 h2 h3 h4
  refine ⟨HE.out, ?_⟩
  intro a' ha'
  simp only [Act.put, List.setIfInBounds_toArray, List.set_cons_zero, List.set_cons_succ] at ha'
  subst ha'
  simp only [List.nil_append, List.length_map]
  (refine sch_run (o := ?_) (v := ?_) (a' := ?_) (w' := ?_) (at_of hops.out ?_) ?_ ?_ ?_ ?_ ?_; rotate_left 4; (focus (simp only [List.getElem?_toArray, List.getElem?_cons_zero, List.getElem?_cons_succ]; rfl)); (focus (rw [hops.out]; rfl)); (focus (go_simp; constructor <;> with_reducible rfl)); (focus (exact Below.refl _ _)); (focus (simp only [Act.put, List.setIfInBounds_toArray, List.set_cons_zero, List.set_cons_succ]; rfl)))
  have HRWc := Lib.hid (show w'.heap[w.heap.size + 1]? = some (.cells #[.slice none 0 0, .int .i64 0, .int .i64 0] 52 (0, 0)) from by
    have hlt := (Array.getElem?_eq_some_iff.1 HRWa.out).1
    rw [Below.block (Below.trans (Below.alloc HF HLE.out _) HE.out) _ hlt]; exact HRWa.out)
  have hst := store_crash (.slice A' ks.length c') (.int .i64 T) (.int .i64 Y) HRWc.out (by simp [Value.oneCell'])
  (refine schL_store (o := ?_) (at_of hops.out ?_) ?_ 52 (.tmp 2) (.tmp 11) ?_ _ _ ?_ ?_ hst ?_; rotate_left 1; (focus (simp only [List.getElem?_toArray, List.getElem?_cons_zero, List.getElem?_cons_succ]; rfl)); (focus (rw [hops.out]; rfl)); (focus rfl); (focus rfl); (focus rfl))
  have HROW := Lib.hid (setRow_heap w' (w.heap.size + 1) _ #[.slice A' ks.length c', .int .i64 T, .int .i64 Y] _ _ HRWc.out)
  have HEND := Lib.hid (FB.setRow (HFa.out.trans (Below.trans (Below.alloc HF HLE.out (.cells #[] 4)) HE.out)) (g := w.heap.size + 1) (Nat.le_succ _) #[.slice A' ks.length c', .int .i64 T, .int .i64 Y])
  have HR4 := Lib.hid (show RdV (w'.setRow (w.heap.size + 1) #[.slice A' ks.length c', .int .i64 T, .int .i64 Y]) A' (ks.map .bool) from
    (TS.tb (F := [w.heap.size + 1]) (TB.setRow _ w' _) (by simp)) |> fun ht => RdV.move HR3.out fun a v e hc => ht.cell hc (by
      cases A' with
      | none => cases e
      | some ad =>
        have h1 := HA4.out ad rfl
        simp at e
        rw [← e]
        simp only [List.mem_singleton]
        omega))
  clear hst hops HF
  have hsz : (Try.prog.info? 52).map (·.size) = some (#[Value.slice A' ks.length c', .int .i64 T, .int .i64 Y] : Array Value).size := by kernel_rfl
  have HZ := Lib.hid hsz
  clear hsz
  go_wp2
  exact bodyPost_ret (v := .agg #[.slice A' ks.length c', .int .i64 T, .int .i64 Y]) (results_cell_row Try.results33 _ _ (w.heap.size + 1) 52 _ (0, 0) _ rfl HROW.out Try.underlying52 rfl HZ.out) rfl ⟨A', c', rfl, HR4.out, HEND.out, HA3.out⟩
set_option maxRecDepth 100000 in
theorem kit_LightCrash (KA : Option Addr) (kl kc : Nat) (torn bytes m : Int) (w : World) : Calls Try.prog 26 #[.agg #[.slice KA kl kc, .int .i64 torn, .int .i64 bytes], .int .i64 m] w fun e w' => e = .returned (.bool (decide ((kl : Int) ≤ m))) ∧ FB w w' := by
  have HF := Lib.hid ((FB.refl w).alloc (.cells #[.slice KA kl kc, .int .i64 torn, .int .i64 bytes] 52))
  generalize hC : decide ((kl : Int) ≤ m) = C
  go_enter Try.func26, Try.ntmps26
  go_wp2
  go_ret
  exact ⟨rfl, HF.out⟩
end Go.Proofs.Ytihljjfnjclefaa
/- A crash as it comes in, opened. -/
set_option linter.unusedVariables false
set_option linter.unusedSimpArgs false
namespace Go.Proofs.Ytihljjfnjclefaa
open Go.ChangeShapes Go.WideShapes Go.ChangeAt Go.RowKit Go.Deep

section
variable {H : Type} {enc : TypeId × Value → H} {W : World} {v : Value} {d : DataW H} {p : List MemPlace}
set_option maxRecDepth 100000 in
theorem open_boolsC {base : Nat} {spare : Nat → Bool} {held : Bool} {n : Nat} {y : DataW H × List MemPlace} (hf : DataW.trod enc Try.prog W base spare held n 50 [v] = some y) :
    ∃ A c xs, v = .slice A (xs : List Bool).length c ∧ xs.length ≤ c ∧ c ≤ maxLen ∧ RdV W A (xs.map .bool) := by
  rcases open_slice1 Try.underlying50 (by kernel_rfl) hf with ⟨hcs, _⟩ | ⟨a, len, cap, m, nn, V, D, Pl, hcs, _, hl, hm, hmm, _, hx⟩
  · simp at hcs
    subst hcs
    exact ⟨none, 0, [], rfl, by simp, by simp [maxLen], RdV.nil _ _⟩
  · simp at hcs
    subst hcs
    have hlm : len ≤ m := by rw [hmm]; split <;> omega
    obtain ⟨B, hB⟩ := choose_lt (α := Bool) (p := fun i b => W.cell? (a.add i) = some (.bool b)) (n := len) (fun i hi => by
      obtain ⟨h1, h2⟩ := hx i (by omega)
      obtain ⟨b, e1, e2⟩ := DataW.trod_bool Try.underlying4 h2
      simp only [List.cons.injEq, and_true] at e1
      exact ⟨b, by rw [h1, e1]⟩)
    refine ⟨some a, cap, (List.range len).map B, by simp, by simpa using hl, hm, fun i hi => ?_⟩
    simp only [List.length_map, List.length_range] at hi
    obtain ⟨b, off, spot⟩ := a
    have hspot : spot = none := by simpa [Addr.add] using World.cell?_spot (hB 0 (by omega))
    subst hspot
    have := hB i hi
    rw [add_plain] at this
    exact ⟨b, off, rfl, by rw [this]; simp⟩
set_option maxRecDepth 100000 in
theorem open_crash {r : Reach} {b0 : Nat} {base : Nat} {spare : Nat → Bool} {held : Bool} (hv : Value.okWide Try.prog W r b0 52 v) (h : DataW.Trod enc Try.prog W base spare held 52 v d p) :
    ∃ A c ks t y, v = .agg #[.slice A (ks : List Bool).length c, .int .i64 t, .int .i64 y] ∧ ks.length ≤ c ∧ c ≤ maxLen ∧ RdV W A (ks.map .bool) ∧ (-9223372036854775808 ≤ t ∧ t ≤ 9223372036854775807) ∧ (-9223372036854775808 ≤ y ∧ y ≤ 9223372036854775807) := by
  obtain ⟨v0, v1, v2, y0, y1, y2, n, rfl, -, -, h0, h1, h2⟩ := Go.Joins.open_agg3 Try.underlying52 (by kernel_rfl) (by kernel_rfl) hv h
  obtain ⟨A, c, ks, rfl, k1, k2, k3⟩ := open_boolsC h0
  obtain ⟨z1, e1, -, w1⟩ := DataW.trod_int Try.underlying3 h1
  obtain ⟨z2, e2, -, w2⟩ := DataW.trod_int Try.underlying3 h2
  simp only [List.cons.injEq, and_true] at e1 e2
  subst e1 e2
  exact ⟨A, c, ks, z1, z2, rfl, k1, k2, k3, wf_i64 w1, wf_i64 w2⟩
end
end Go.Proofs.Ytihljjfnjclefaa
