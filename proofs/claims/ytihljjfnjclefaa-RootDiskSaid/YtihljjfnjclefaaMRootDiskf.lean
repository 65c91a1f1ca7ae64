/- Walks and laws that the claim's last text stands on, several texts in one file: RtG, RgE, RgF. Under the hypotheses that each theorem states. -/
import Derived.Test.YtihljjfnjclefaaMRta
import Derived.Test.YtihljjfnjclefaaMRtb
import Derived.Test.YtihljjfnjclefaaMRtc
import Derived.Test.YtihljjfnjclefaaMRtd
import Derived.Test.YtihljjfnjclefaaMRte
import Derived.Test.YtihljjfnjclefaaMRtf
import Derived.Test.YtihljjfnjclefaaMRtg
import Derived.Test.YtihljjfnjclefaaMRth
import Derived.Test.YtihljjfnjclefaaMRti
import Derived.Test.YtihljjfnjclefaaMRtj
import Derived.Test.YtihljjfnjclefaaMRtk
import Derived.Test.YtihljjfnjclefaaMRtl
import Derived.Test.YtihljjfnjclefaaMRootDiska
import Derived.Test.YtihljjfnjclefaaMRootDiskb
import Derived.Test.YtihljjfnjclefaaMRootDiskc
import Derived.Test.YtihljjfnjclefaaMRootDiskd
import Derived.Test.YtihljjfnjclefaaMRootDiske
/- root: the walk through Read of the reference. -/
set_option linter.unusedVariables false
set_option linter.unusedSimpArgs false
namespace Go.Proofs.Ytihljjfnjclefaa
open Go.ChangeShapes Go.WideShapes Go.ChangeAt Go.RowKit
attribute [local go_sem] nb_nonneg nb_lt8 nb_lt64
set_option maxRecDepth 100000

/-- A reader of the reference, and how many words it has read. -/
def RRx (W : World) (g : Nat) (x : List Byte) (j : Nat) : Prop := ∃ b o c, RR W g b o c (x.drop (8 * j))
theorem RRx.lt {W : World} {g j : Nat} {x : List Byte} (h : RRx W g x j) : g < W.heap.size := by obtain ⟨b, o, c, h⟩ := h; exact h.lt
theorem RRx.fb {W W' : World} {g j : Nat} {x : List Byte} (h : RRx W g x j) (k : FB W W') : RRx W' g x j := by obtain ⟨b, o, c, h⟩ := h; exact ⟨b, o, c, h.fb k⟩
theorem RRx.tb {W W' : World} {g g' j : Nat} {x : List Byte} (h : RRx W g x j) (k : TB g' W W') (hg : g < g') : RRx W' g x j := by obtain ⟨b, o, c, h⟩ := h; exact ⟨b, o, c, h.tb k hg⟩
theorem rr_step {g : Nat} {x : List Byte} {W : World} (j : Nat) (h : RRx W g x j) (hn : 8 * j + 8 < x.length) (hl : x.length ≤ 5000) :
    Calls Try.prog 53 #[.pointer (some ⟨g, 0, none⟩), .int .i64 8] W fun e w' => e = .returned (.int .u64 (nb (rw8 x j))) ∧ RRx w' g x (j + 1) ∧ TB g W w' := by
  obtain ⟨b, o, c, h⟩ := h
  refine (rrl_Word _ _ g b o c W rfl (by rw [List.length_drop]; omega) h (by rw [List.length_drop]; omega)).mono (fun e w' k => ⟨k.1, ⟨b, o + 8, c - 8, ?_⟩, k.2.2⟩)
  have q := k.2.1
  rwa [List.drop_drop, show 8 * j + 8 = 8 * (j + 1) by omega] at q
set_option maxHeartbeats 8000000 in
theorem r6_Read (b : List Byte) (A : Option Addr) (c : Nat) (w : World) (hl : b.length ≤ 1000000000) (hc : b.length ≤ c) (hm : c ≤ maxLen) (hr : Rd w A b) :
    Calls Try.prog 25 #[.slice A b.length c] w fun e w' => e = .returned (.tuple #[rtV (rtR b).1, .int .i64 (rtR b).2]) ∧ FB w w' := by
  obtain ⟨W1, hW1⟩ : ∃ W1 : World, W1 = w.alloc (.cells (rtCs rt0) 29) := ⟨_, rfl⟩
  have HS := Lib.hid (show RdSt w W1 w.heap.size from by rw [hW1]; exact ⟨(FB.refl w).alloc _, heap_alloc_new w _, Nat.le_refl _⟩)
  have HW1 := Lib.hid hW1
  have HC1 := Lib.hid (r5_Read b A c W1 hl hc hm (HS.out.fb.rd hr))
  obtain ⟨R, hR⟩ : ∃ R, R = rtR b := ⟨_, rfl⟩
  rw [← hR]
  have HFAR := Lib.hid (fun h => hR.trans (@rtR_far b h))
  have HZ := Lib.hid (@pgR_zero b)
  unfold rtR at hR
  generalize pgR b = p at *
  obtain ⟨⟨K, n, x⟩, er⟩ := p
  simp only at hR
  have HR := Lib.hid hR
  have HRB := Lib.hid hr
  clear hW1 hR hl hc hm hr
  have hrs : ∀ W, FB w W → (convert 22 9 (.slice A b.length c)).run Try.prog W = .ok (.string (sb b)) W := fun W h => run_string c (h.rd HRB.out)
  have HSB := Lib.hid hrs
  clear hrs
  go_enter Try.func25, Try.ntmps25
  go_upto_region 1 with fail
  rw [← rt0_cs, ← HW1.out]
  clear HW1
  go_wp2_with fail
  refine HC1.out.mono ?_
  rintro e w1 ⟨A1, c1, rfl, hrx, hx1, hxm, hb⟩
  simp only at hrx hx1
  have HRX := Lib.hid hrx
  have HX := Lib.hid (And.intro hx1 hxm)
  have HS1 := Lib.hid (HS.out.fbn hb)
  clear hrx hx1 hxm hb HS HC1
  obtain ⟨W2, hW2⟩ : ∃ W2 : World, W2 = w1.alloc (.cells #[.int .i64 K, .int .u32 (nb n), .slice A1 x.length c1] 71) := ⟨_, rfl⟩
  have HS2 := Lib.hid (show RdSt w W2 w.heap.size from by rw [hW2]; exact HS1.out.fbn ((FB.refl _).alloc _))
  have HRX2 := Lib.hid (show Rd W2 A1 x from by rw [hW2]; exact HRX.out.alloc _)
  obtain ⟨p0, p1, p2⟩ := prow3 (heap_alloc_new w1 (.cells #[.int .i64 K, .int .u32 (nb n), .slice A1 x.length c1] 71))
  rw [← hW2] at p0 p1 p2
  have HW2 := Lib.hid hW2
  clear hW2 HS1 HRX
  have hs0 := rt_store rt0 rt0 HS2.out.row
  unfold rtV at hs0
  rw [rt0_cs] at hs0
  have HE0 := Lib.hid (show FB w (W2.setRow w.heap.size (rtCs rt0)) ∧ (W2.setRow w.heap.size (rtCs rt0)).heap[w.heap.size]? = some (.cells (rtCs rt0) 29 (0, 0)) from ⟨HS2.out.fb.setRow (Nat.le_refl _) _, setRow_heap _ _ _ (rtCs rt0) _ _ HS2.out.row⟩)
  by_cases her : er = 0
  · subst her
    by_cases hK : K = 1
    · subst hK
      have HXL := Lib.hid (show x.length = 4080 from HZ.out rfl)
      clear hs0 HE0 HFAR HZ
      go_upto_region 4 with fail
      rw [← HW2.out]
      clear HW2
      have hnw := rrl_New x A1 4080 c1 W2 HXL.out.symm (by rw [HXL.out]; omega) (by rw [HXL.out]; omega) HRX2.out
      have HNW := Lib.hid hnw
      rw [HXL.out] at p2
      clear hnw
      go_wp2_with fail
      refine HNW.out.mono ?_
      rintro e w3 ⟨g, b3, c3, rfl, hrr, hge, hb⟩
      have HS3 := Lib.hid (HS2.out.fbn hb)
      have HD3 := Lib.hid (show RRx w3 g x 0 from ⟨b3, 0, c3, hrr⟩)
      have HNG := Lib.hid (show w.heap.size < g from Nat.lt_of_lt_of_le HS2.out.lt hge)
      clear hrr hge hb HNW HS2 HRX2 p0 p1 p2
      obtain ⟨W4, hW4⟩ : ∃ W4 : World, W4 = w3.alloc (.cells (rtCs rt0) 29) := ⟨_, rfl⟩
      have HS4 := Lib.hid (show RdSt w W4 w.heap.size from by rw [hW4]; exact HS3.out.fbn ((FB.refl _).alloc _))
      have HD4 := Lib.hid (show RRx W4 g x 0 from by rw [hW4]; exact HD3.out.fb ((FB.refl _).alloc _))
      have HG4 := Lib.hid (show W4.heap[w3.heap.size]? = some (.cells (rtCs rt0) 29 (0, 0)) from by rw [hW4]; exact heap_alloc_new w3 _)
      have HGG := Lib.hid (show g < w3.heap.size from HD3.out.lt)
      have HW4 := Lib.hid hW4
      clear hW4 HS3 HD3
      go_upto_region 6 with fail
      rw [← rt0_cs, ← HW4.out]
      clear HW4
      have hcw := rr_step 0 HD4.out (by rw [HXL.out]; omega) (by rw [HXL.out]; omega)
      have HC := Lib.hid hcw
      clear hcw
      go_wp2_with fail
      refine HC.out.mono ?_
      rintro e w5 ⟨rfl, hrd, hb⟩
      have HS5 := Lib.hid (HS4.out.tb hb HNG.out)
      have HD5 := Lib.hid hrd
      have HG5 := Lib.hid ((hb.out.block _ (Array.getElem?_eq_some_iff.1 HG4.out).1 (fun e => by have := HGG.out; simp at e; omega)).trans HG4.out)
      clear hrd hb HC HS4 HD4 HG4
      have hcw := rr_step 1 HD5.out (by rw [HXL.out]; omega) (by rw [HXL.out]; omega)
      have HC := Lib.hid hcw
      clear hcw
      go_wp2_with fail
      refine HC.out.mono ?_
      rintro e w6 ⟨rfl, hrd, hb⟩
      have HS6 := Lib.hid (HS5.out.tb hb HNG.out)
      have HD6 := Lib.hid hrd
      have HG6 := Lib.hid ((hb.out.block _ (Array.getElem?_eq_some_iff.1 HG5.out).1 (fun e => by have := HGG.out; simp at e; omega)).trans HG5.out)
      clear hrd hb HC HS5 HD5 HG5
      have hcw := rr_step 2 HD6.out (by rw [HXL.out]; omega) (by rw [HXL.out]; omega)
      have HC := Lib.hid hcw
      clear hcw
      go_wp2_with fail
      refine HC.out.mono ?_
      rintro e w7 ⟨rfl, hrd, hb⟩
      have HS7 := Lib.hid (HS6.out.tb hb HNG.out)
      have HD7 := Lib.hid hrd
      have HG7 := Lib.hid ((hb.out.block _ (Array.getElem?_eq_some_iff.1 HG6.out).1 (fun e => by have := HGG.out; simp at e; omega)).trans HG6.out)
      clear hrd hb HC HS6 HD6 HG6
      have hcw := rr_step 3 HD7.out (by rw [HXL.out]; omega) (by rw [HXL.out]; omega)
      have HC := Lib.hid hcw
      clear hcw
      go_wp2_with fail
      refine HC.out.mono ?_
      rintro e w8 ⟨rfl, hrd, hb⟩
      have HS8 := Lib.hid (HS7.out.tb hb HNG.out)
      have HD8 := Lib.hid hrd
      have HG8 := Lib.hid ((hb.out.block _ (Array.getElem?_eq_some_iff.1 HG7.out).1 (fun e => by have := HGG.out; simp at e; omega)).trans HG7.out)
      clear hrd hb HC HS7 HD7 HG7
      have hcw := rr_step 4 HD8.out (by rw [HXL.out]; omega) (by rw [HXL.out]; omega)
      have HC := Lib.hid hcw
      clear hcw
      go_wp2_with fail
      refine HC.out.mono ?_
      rintro e w9 ⟨rfl, hrd, hb⟩
      have HS9 := Lib.hid (HS8.out.tb hb HNG.out)
      have HD9 := Lib.hid hrd
      have HG9 := Lib.hid ((hb.out.block _ (Array.getElem?_eq_some_iff.1 HG8.out).1 (fun e => by have := HGG.out; simp at e; omega)).trans HG8.out)
      clear hrd hb HC HS8 HD8 HG8
      generalize w3.heap.size = gR at *
      obtain ⟨q0, q1, q2, q3, q4, -⟩ := prow9 HG9.out
      have f0 := frozen_row _ HG9.out 0
      have f1 := frozen_row _ HG9.out 1
      have f2 := frozen_row _ HG9.out 2
      have f3 := frozen_row _ HG9.out 3
      have f4 := frozen_row _ HG9.out 4
      obtain ⟨WA, hWA⟩ : ∃ WA : World, WA = ((((w9.setCell ⟨gR, 0, none⟩ (.int .u64 (nb (rw8 x 0)))).setCell ⟨gR, 1, none⟩ (.int .u64 (nb (rw8 x 1)))).setCell ⟨gR, 2, none⟩ (.int .u64 (nb (rw8 x 2)))).setCell ⟨gR, 3, none⟩ (.int .u64 (nb (rw8 x 3)))).setCell ⟨gR, 4, none⟩ (.int .u64 (nb (rw8 x 4))) := ⟨_, rfl⟩
      have HTA := Lib.hid (show TB gR w9 WA from by rw [hWA]; exact ((((TB.set w9 0 _).trans (TB.set _ 1 _)).trans (TB.set _ 2 _)).trans (TB.set _ 3 _)).trans (TB.set _ 4 _))
      have HGA := Lib.hid (show WA.heap[gR]? = some (.cells (rtCs (rtPart x 0)) 29 (0, 0)) from by
        rw [hWA]
        have h0 := heap_setCell_same w9 gR 0 _ _ (.int .u64 (nb (rw8 x 0))) HG9.out
        have h1 := heap_setCell_same _ gR 1 _ _ (.int .u64 (nb (rw8 x 1))) h0
        have h2 := heap_setCell_same _ gR 2 _ _ (.int .u64 (nb (rw8 x 2))) h1
        have h3 := heap_setCell_same _ gR 3 _ _ (.int .u64 (nb (rw8 x 3))) h2
        have h4 := heap_setCell_same _ gR 4 _ _ (.int .u64 (nb (rw8 x 4))) h3
        rw [h4]; rfl)
      have HWA := Lib.hid hWA
      have HSA := Lib.hid (HS9.out.tb HTA.out (by have := HGG.out; have := HNG.out; omega))
      have HDA := Lib.hid (HD9.out.tb HTA.out HGG.out)
      clear hWA HTA HS9 HD9
      go_upto_region 7 with fail
      rw [← HWA.out]
      clear HWA HG9 q0 q1 q2 q3 q4 f0 f1 f2 f3 f4
      go_wp2_with fail
      go_loopw [8] (fun i wr => ∃ k : Nat, k ≤ 4 ∧ i = .int .i64 k ∧ Hid (RRx wr g x (5 + k)) ∧ Hid (wr.heap[gR]? = some (.cells (rtCs (rtPart x k)) 29 (0, 0))) ∧ Hid (RdSt w wr w.heap.size)) (fun i _ => 4 - (intOf i).toNat)
      case atStart => exact ⟨0, by omega, rfl, HDA, HGA, HSA⟩
      case round =>
        obtain ⟨k, hk, rfl, HD, HG, HS⟩ := hrel
        rcases (show k = 0 ∨ k = 1 ∨ k = 2 ∨ k = 3 ∨ k = 4 by omega) with rfl | rfl | rfl | rfl | rfl
        · have hcw := rr_step (5 + 0) HD.out (by rw [HXL.out]; omega) (by rw [HXL.out]; omega)
          have HC := Lib.hid hcw
          clear hcw
          go_wp2_with fail
          refine HC.out.mono ?_
          rintro e wq ⟨rfl, hrd, hb⟩
          have HSq := Lib.hid (HS.out.tb hb HNG.out)
          have HDq := Lib.hid hrd
          have hgq := (hb.out.block _ (Array.getElem?_eq_some_iff.1 HG.out).1 (fun e => by have := HGG.out; simp at e; omega)).trans HG.out
          have HGq := Lib.hid hgq
          have hq := (prow9 hgq).2.2.2.2.2.1
          have hfz := frozen_row _ hgq 5
          clear hrd hb HC hgq
          go_wp2_with fail
          go_round
          case rel =>
            refine ⟨1, by omega, rfl, Lib.hid (HDq.out.tb (TB.set (g := gR) wq 5 _) HGG.out), Lib.hid ?_, Lib.hid (HSq.out.tb (TB.set (g := gR) wq 5 _) (by have := HGG.out; have := HNG.out; omega))⟩
            rw [heap_setCell_same wq gR 5 _ _ _ HGq.out]
            rfl
          case measure => simp [intOf]
        · have hcw := rr_step (5 + 1) HD.out (by rw [HXL.out]; omega) (by rw [HXL.out]; omega)
          have HC := Lib.hid hcw
          clear hcw
          go_wp2_with fail
          refine HC.out.mono ?_
          rintro e wq ⟨rfl, hrd, hb⟩
          have HSq := Lib.hid (HS.out.tb hb HNG.out)
          have HDq := Lib.hid hrd
          have hgq := (hb.out.block _ (Array.getElem?_eq_some_iff.1 HG.out).1 (fun e => by have := HGG.out; simp at e; omega)).trans HG.out
          have HGq := Lib.hid hgq
          have hq := (prow9 hgq).2.2.2.2.2.2.1
          have hfz := frozen_row _ hgq 6
          clear hrd hb HC hgq
          go_wp2_with fail
          go_round
          case rel =>
            refine ⟨2, by omega, rfl, Lib.hid (HDq.out.tb (TB.set (g := gR) wq 6 _) HGG.out), Lib.hid ?_, Lib.hid (HSq.out.tb (TB.set (g := gR) wq 6 _) (by have := HGG.out; have := HNG.out; omega))⟩
            rw [heap_setCell_same wq gR 6 _ _ _ HGq.out]
            rfl
          case measure => simp [intOf]
        · have hcw := rr_step (5 + 2) HD.out (by rw [HXL.out]; omega) (by rw [HXL.out]; omega)
          have HC := Lib.hid hcw
          clear hcw
          go_wp2_with fail
          refine HC.out.mono ?_
          rintro e wq ⟨rfl, hrd, hb⟩
          have HSq := Lib.hid (HS.out.tb hb HNG.out)
          have HDq := Lib.hid hrd
          have hgq := (hb.out.block _ (Array.getElem?_eq_some_iff.1 HG.out).1 (fun e => by have := HGG.out; simp at e; omega)).trans HG.out
          have HGq := Lib.hid hgq
          have hq := (prow9 hgq).2.2.2.2.2.2.2.1
          have hfz := frozen_row _ hgq 7
          clear hrd hb HC hgq
          go_wp2_with fail
          go_round
          case rel =>
            refine ⟨3, by omega, rfl, Lib.hid (HDq.out.tb (TB.set (g := gR) wq 7 _) HGG.out), Lib.hid ?_, Lib.hid (HSq.out.tb (TB.set (g := gR) wq 7 _) (by have := HGG.out; have := HNG.out; omega))⟩
            rw [heap_setCell_same wq gR 7 _ _ _ HGq.out]
            rfl
          case measure => simp [intOf]
        · have hcw := rr_step (5 + 3) HD.out (by rw [HXL.out]; omega) (by rw [HXL.out]; omega)
          have HC := Lib.hid hcw
          clear hcw
          go_wp2_with fail
          refine HC.out.mono ?_
          rintro e wq ⟨rfl, hrd, hb⟩
          have HSq := Lib.hid (HS.out.tb hb HNG.out)
          have HDq := Lib.hid hrd
          have hgq := (hb.out.block _ (Array.getElem?_eq_some_iff.1 HG.out).1 (fun e => by have := HGG.out; simp at e; omega)).trans HG.out
          have HGq := Lib.hid hgq
          have hq := (prow9 hgq).2.2.2.2.2.2.2.2
          have hfz := frozen_row _ hgq 8
          clear hrd hb HC hgq
          go_wp2_with fail
          go_round
          case rel =>
            refine ⟨4, by omega, rfl, Lib.hid (HDq.out.tb (TB.set (g := gR) wq 8 _) HGG.out), Lib.hid ?_, Lib.hid (HSq.out.tb (TB.set (g := gR) wq 8 _) (by have := HGG.out; have := HNG.out; omega))⟩
            rw [heap_setCell_same wq gR 8 _ _ _ HGq.out]
            rfl
          case measure => simp [intOf]
        · obtain ⟨s, hs⟩ : ∃ s, s = rtOf x := ⟨_, rfl⟩
          have HG2 := Lib.hid (show wr.heap[gR]? = some (.cells (rtCs s) 29 (0, 0)) from by rw [hs]; exact HG.out)
          rw [← hs] at HR
          obtain ⟨q0, q1, q2, q3, q4, q5, q6, q7, q8⟩ := prow9 HG2.out
          have hcb := r6_Bytes s wr
          unfold rtV rtCs at hcb
          generalize hys : rtB s = yb at *
          obtain ⟨ys, eb⟩ := yb
          have HC := Lib.hid hcb
          clear hcb hs hys HG
          go_wp2_with fail
          refine HC.out.mono ?_
          rintro e w5 ⟨A5, c5, rfl, ho, hb⟩
          simp only at ho
          have HO5 := Lib.hid ho
          have HS5 := Lib.hid (HS.out.fbn hb)
          have HG5 := Lib.hid ((hb.block _ (Array.getElem?_eq_some_iff.1 HG2.out).1).trans HG2.out)
          clear ho hb HC HS HG2 HD q0 q1 q2 q3 q4 q5 q6 q7 q8
          have hs0 := rt_store rt0 rt0 HS5.out.row
          unfold rtV at hs0
          rw [rt0_cs] at hs0
          have HE0 := Lib.hid (show FB w (w5.setRow w.heap.size (rtCs rt0)) ∧ (w5.setRow w.heap.size (rtCs rt0)).heap[w.heap.size]? = some (.cells (rtCs rt0) 29 (0, 0)) from ⟨HS5.out.fb.setRow (Nat.le_refl _) _, setRow_heap _ _ _ (rtCs rt0) _ _ HS5.out.row⟩)
          by_cases heb : eb = 0
          · subst heb
            have hs1 := run_string c5 (Own.info HO5.out).2.2.1
            have hs2 := HSB.out w5 HS5.out.fb
            by_cases hyb : ys = b
            · have hse : ((sb ys).toList == (sb b).toList) = true := by rw [sb_beq]; simpa using hyb
              have HRR := Lib.hid (show R = (s, 0) from by rw [HR.out, if_pos ⟨trivial, trivial, by rw [hyb]⟩])
              obtain ⟨q0, q1, q2, q3, q4, q5, q6, q7, q8⟩ := prow9 HG5.out
              have hst := rt_store rt0 s HS5.out.row
              have HEs := Lib.hid (show FB w (w5.setRow w.heap.size (rtCs s)) ∧ (w5.setRow w.heap.size (rtCs s)).heap[w.heap.size]? = some (.cells (rtCs s) 29 (0, 0)) from ⟨HS5.out.fb.setRow (Nat.le_refl _) _, setRow_heap _ _ _ (rtCs s) _ _ HS5.out.row⟩)
              unfold rtV rtCs at hst
              clear hyb hs0 HE0
              go_wp2_with (refine wpList_store_by rfl _ _ _ rfl _ hst ?_)
              try simp only [Exit.inBlock, Exit.then]
              refine bodyPost_ret (rt_ret rfl _ w.heap.size rfl _ HEs.out.2) rfl ?_
              rw [HRR.out]
              exact ⟨rfl, HEs.out.1⟩
            · have hse : ((sb ys).toList == (sb b).toList) = false := by rw [sb_beq]; simpa using hyb
              have HRR := Lib.hid (show R = (rt0, 4) from by rw [HR.out, if_neg (fun h => hyb (congrArg Prod.fst h.2.2))])
              clear hyb
              go_wp2_with (refine wpList_store_by rfl _ _ _ rfl _ hs0 ?_)
              try simp only [Exit.inBlock, Exit.then]
              refine bodyPost_ret (rt_ret rfl _ w.heap.size rfl _ HE0.out.2) rfl ?_
              rw [HRR.out]
              exact ⟨rfl, HE0.out.1⟩
          · have hkb : (eb != 0) = true := by simpa using heb
            have HRR := Lib.hid (show R = (rt0, 4) from by rw [HR.out, if_neg (fun h => heb (congrArg Prod.snd h.2.2))])
            clear heb
            go_wp2_with (refine wpList_store_by rfl _ _ _ rfl _ hs0 ?_)
            try simp only [Exit.inBlock, Exit.then]
            refine bodyPost_ret (rt_ret rfl _ w.heap.size rfl _ HE0.out.2) rfl ?_
            rw [HRR.out]
            exact ⟨rfl, HE0.out.1⟩
    · have hkb : (K != 1) = true := by simpa using hK
      have HRR := Lib.hid (show R = (rt0, 4) from HFAR.out (.inr hK))
      clear hK
      go_upto_region 2 with fail
      rw [← HW2.out]
      clear HW2
      go_wp2_with (refine wpList_store_by rfl _ _ _ rfl _ hs0 ?_)
      try simp only [Exit.inBlock, Exit.then]
      refine bodyPost_ret (rt_ret rfl _ w.heap.size rfl _ HE0.out.2) rfl ?_
      rw [HRR.out]
      exact ⟨rfl, HE0.out.1⟩
  · have hkb : (er != 0) = true := by simpa using her
    have HRR := Lib.hid (show R = (rt0, 4) from HFAR.out (.inl her))
    clear her
    go_upto_region 2 with fail
    rw [← HW2.out]
    clear HW2
    go_wp2_with (refine wpList_store_by rfl _ _ _ rfl _ hs0 ?_)
    try simp only [Exit.inBlock, Exit.then]
    refine bodyPost_ret (rt_ret rfl _ w.heap.size rfl _ HE0.out.2) rfl ?_
    rw [HRR.out]
    exact ⟨rfl, HE0.out.1⟩
end Go.Proofs.Ytihljjfnjclefaa
/- the reference of layer 5 over the reference's disk: Pages, Load, Save. -/
set_option linter.unusedVariables false
set_option linter.unusedSimpArgs false
namespace Go.Proofs.Ytihljjfnjclefaa
open Go.ChangeShapes Go.WideShapes Go.ChangeAt Go.RowKit Go.MapKept
set_option maxRecDepth 100000

set_option maxHeartbeats 400000 in
theorem r5_Pages {w : World} {F : List Nat} {g n : Nat} {D : DiskSt} (h : RDsk w F g n D) :
    Calls Try.prog 54 #[.pointer (some ⟨g, 0, none⟩)] w fun e w' => e = .returned (.int .i64 ((n / 8 : Nat) : Int)) ∧ w = w' := by
  have H := Lib.hid h
  have hd := div8 n
  have hn := h.ok.n2
  have hwr : IntKind.i64.wrap (((n / 8 : Nat) : Int)) = ((n / 8 : Nat) : Int) := by rw [IntKind.wrap_i64]; omega
  clear h
  generalize hm : n / 8 = m at *
  clear hm
  go_enter Try.func54, Try.ntmps54
  go_wp2_with fail
  refine (ref_Sectors H.out).mono ?_
  rintro e w1 ⟨rfl, rfl⟩
  go_wp2
  go_ret
  first | exact ⟨rfl, rfl⟩ | exact ⟨by simp [hd], rfl⟩
set_option maxHeartbeats 2000000 in
theorem r5_Load {w : World} {F : List Nat} {g n : Nat} {D : DiskSt} (h : RDsk w F g n D) (k : Int) :
    Calls Try.prog 56 #[.pointer (some ⟨g, 0, none⟩), .int .i64 k] w fun e w' => ∃ A c, e = .returned (.tuple #[.slice A (sdLoad D n k).1.length c, .int .i64 (sdLoad D n k).2.1]) ∧ Rd w' A (sdLoad D n k).1 ∧ (∀ ad, A = some ad → w.heap.size ≤ ad.block) ∧ RDsk w' F g n (sdLoad D n k).2.2 ∧ TS F w w' := by
  have H := Lib.hid h
  have HP := Lib.hid (r5_Pages h)
  have HF := Lib.hid h.lt
  have HN := Lib.hid h.ok.n2
  obtain ⟨R, hR⟩ : ∃ R, R = sdLoad D n k := ⟨_, rfl⟩
  rw [← hR]
  unfold sdLoad at hR
  clear h
  obtain ⟨m, hm⟩ : ∃ m : Nat, m = n / 8 := ⟨_, rfl⟩
  have HM := Lib.hid hm
  rw [← hm] at HP
  by_cases ho : pgOut n k
  · rw [if_pos ho] at hR
    subst hR
    unfold pgOut at ho
    rw [← hm] at ho
    clear hm
    by_cases hneg : k < 0
    · clear ho
      go_enter Try.func56, Try.ntmps56
      go_wp2
      go_ret2
      exact ⟨none, 0, rfl, Rd.nil _ _, fun ad ha => (by cases ha), H.out, TS.refl _ _⟩
    · have hbig : (m : Int) ≤ k := by omega
      clear ho
      go_enter Try.func56, Try.ntmps56
      go_wp2_with fail
      refine HP.out.mono ?_
      rintro e w1 ⟨rfl, rfl⟩
      go_wp2
      go_ret2
      exact ⟨none, 0, rfl, Rd.nil _ _, fun ad ha => (by cases ha), H.out, TS.refl _ _⟩
  · rw [if_neg ho] at hR
    unfold pgOut at ho
    rw [← hm] at ho
    have HK := Lib.hid (show 0 ≤ k ∧ k < (m : Int) ∧ (m : Int) * 8 ≤ n from by omega)
    have hneg : ¬ k < 0 := by omega
    have hbig : ¬ (m : Int) ≤ k := by omega
    have HRR := Lib.hid hR
    clear ho hR hm
    go_enter Try.func56, Try.ntmps56
    go_wp2_with fail
    refine HP.out.mono ?_
    rintro e w1 ⟨rfl, rfl⟩
    go_wp2_with fail
    clear hneg hbig
    go_loopw [6, 7] (fun v i wr => ∃ (j : Nat) (out : List Byte) (D' : DiskSt), j ≤ 8 ∧ i = .int .i64 j ∧ Hid (out.length ≤ 512 * j) ∧ Hid (Own wr w.heap.size v out) ∧ Hid (RDsk wr F g n D') ∧ Hid (TS F w wr) ∧ Hid (R = ldF n k (8 - j) j out D')) (fun _ i _ => 8 - (intOf i).toNat)
    case atStart => exact ⟨0, [], D, by omega, rfl, Lib.hid (by simp), Lib.hid (Own.nil _ _), H, Lib.hid (TS.refl _ _), HRR⟩
    case round =>
      obtain ⟨j, out, D', hj, rfl, HOL, HO, HD, HT, HRJ⟩ := hrel
      by_cases hlt : j < 8
      · have hz : (j : Int) < 8 := by omega
        have hw1 : IntKind.i64.wrap (8 * k) = k * 8 := by rw [IntKind.wrap_i64]; have := HK.out; have := HN.out; omega
        have hw2 : IntKind.i64.wrap (k * 8 + (j : Int)) = k * 8 + (j : Int) := by rw [IntKind.wrap_i64]; have := HK.out; have := HN.out; omega
        have hw3 : IntKind.i64.wrap ((j : Int) + 1) = (j : Int) + 1 := by rw [IntKind.wrap_i64]; omega
        have HJ := Lib.hid hlt
        have hrj := HRJ.out
        rw [show 8 - j = (7 - j) + 1 from by omega, ldF] at hrj
        have HRJ2 := Lib.hid hrj
        have HRL := Lib.hid (sdRead_le HD.out.ok (k * 8 + (j : Int)))
        have HC := Lib.hid (ref_Read HD.out (k * 8 + (j : Int)))
        generalize sdRead D' n (k * 8 + (j : Int)) = t at *
        obtain ⟨b, er, D2⟩ := t
        have HRL := Lib.hid (show b.length ≤ 512 from HRL.out)
        clear hlt hj hrj HRJ
        go_wp2_with fail
        refine HC.out.mono ?_
        rintro e w2 ⟨A9, c9, rfl, hr, hnew, hd, ht⟩
        have HR9 := Lib.hid (show Rd w2 A9 b from hr)
        have HD2 := Lib.hid hd
        have HT2 := Lib.hid (HT.out.then ht)
        have HOF := Lib.hid (OwnV.base HO.out)
        have HO2 := Lib.hid (ht.ownV HO.out (fun kk hk hm => by have h1 := (HOF.out kk hk).1; have := HF.out kk hm; omega))
        clear hr hnew hd ht HC HO HD HT
        by_cases he : er = 0
        · subst he
          have hrj := HRJ2.out
          rw [if_pos rfl] at hrj
          have HRJ3 := Lib.hid hrj
          clear hrj HRJ2
          go_wp2_with (at_builtin; refine wpList_append_bytes rfl _ _ rfl w.heap.size _ out HO2.out rfl A9 c9 b rfl HR9.out (by have := HRL.out; have := HOL.out; have := HJ.out; omega) HT2.out.size ?_; intro v' w3 ho hg hob; have HO3 := Lib.hid ho; have HG := Lib.hid hg; clear ho hg hob)
          have HD3 := Lib.hid (HD2.out.ts (TS.grown HG.out) (fun x hx hm => by have h1 := (HOF.out x (by simpa using hx)).1; have := HF.out x hm; omega))
          have HT3 := Lib.hid (HT2.out.trans (TS.grown HG.out) (fun x hx => .inr (HOF.out x (by simpa using hx)).1))
          go_roundw
          case rel => exact ⟨j + 1, out ++ b, D2, by have := HJ.out; omega, by go_num, Lib.hid (by rw [List.length_append]; have := HRL.out; have := HOL.out; omega), HO3, HD3, HT3, Lib.hid (by rw [show 8 - (j + 1) = 7 - j by omega]; exact HRJ3.out)⟩
          case measure => (show 8 - ((j : Int) + 1).toNat < 8 - ((j : Int)).toNat; have := HJ.out; omega)
        · have heb : (er != 0) = true := by simpa using he
          have hrj := HRJ2.out
          rw [if_neg he] at hrj
          have HRJ3 := Lib.hid hrj
          clear hrj HRJ2 he
          go_wp2
          go_ret2
          rw [HRJ3.out]
          exact ⟨none, 0, rfl, Rd.nil _ _, fun ad ha => (by cases ha), HD2.out, HT2.out⟩
      · obtain rfl : j = 8 := by omega
        have hq := HRJ.out
        rw [ldF] at hq
        have HQ := Lib.hid hq
        obtain ⟨A7, c7, rfl, h1, h2, h3, h4⟩ := Own.form HO.out
        have HE := Lib.hid (And.intro h3 h4)
        clear hq HRJ HO h1 h2 h3 h4
        go_wp2
        go_ret2
        rw [HQ.out]
        exact ⟨A7, c7, rfl, HE.out.1, fun ad ha => (HE.out.2 ad ha).1, HD.out, HT.out⟩
set_option maxHeartbeats 4000000 in
theorem r5_Save {w : World} {F : List Nat} {g n : Nat} {D : DiskSt} (h : RDsk w F g n D) (k : Int) (A : Option Addr) (ca : Nat) (xs : List Byte) (hl : xs.length ≤ 100000000000) (hca : xs.length ≤ ca) (hr : Rd w A xs) (hAF : ∀ ad, A = some ad → ad.block ∉ F) :
    Calls Try.prog 55 #[.pointer (some ⟨g, 0, none⟩), .int .i64 k, .slice A xs.length ca] w fun e w' => e = .returned (.int .i64 (sdSave D n k xs).1) ∧ RRes w F g n (sdSave D n k xs).2 w' := by
  have HP := Lib.hid (r5_Pages h)
  have HF := Lib.hid h.lt
  have HN := Lib.hid h.ok.n2
  have H0 := Lib.hid h
  have HX := Lib.hid hr
  have HAF := Lib.hid hAF
  obtain ⟨R, hR⟩ : ∃ R, R = sdSave D n k xs := ⟨_, rfl⟩
  rw [← hR]
  unfold sdSave at hR
  clear h hr hAF
  obtain ⟨m, hm⟩ : ∃ m : Nat, m = n / 8 := ⟨_, rfl⟩
  have HM := Lib.hid hm
  rw [← hm] at HP
  by_cases hneg : k < 0
  · rw [if_pos (.inl (.inl hneg))] at hR
    subst hR
    clear hl hca hm
    go_enter Try.func55, Try.ntmps55
    go_wp2
    go_ret
    exact ⟨rfl, F, fun x hx => .inl hx, H0.out, TS.refl _ _⟩
  · by_cases hbig : (m : Int) ≤ k
    · rw [if_pos (.inl (.inr (by rw [← hm]; exact hbig)))] at hR
      subst hR
      clear hl hca hm
      go_enter Try.func55, Try.ntmps55
      go_wp2_with fail
      refine HP.out.mono ?_
      rintro e w1 ⟨rfl, rfl⟩
      go_wp2
      go_ret
      exact ⟨rfl, F, fun x hx => .inl hx, H0.out, TS.refl _ _⟩
    · by_cases hx : xs.length = 4096
      · rw [if_neg (by unfold pgOut; rw [← hm]; omega)] at hR
        have HRR := Lib.hid hR
        have HXL := Lib.hid hx
        have HCA := Lib.hid hca
        have HK := Lib.hid (show 0 ≤ k ∧ k < (m : Int) ∧ (m : Int) * 8 ≤ n from by omega)
        rw [hx]
        clear hR hx hca hl hm
        go_enter Try.func55, Try.ntmps55
        go_wp2_with fail
        refine HP.out.mono ?_
        rintro e w1 ⟨rfl, rfl⟩
        go_wp2_with fail
        clear hneg hbig
        go_loopw [7] (fun i wr => ∃ (j : Nat) (D' : DiskSt) (F' : List Nat), j ≤ 8 ∧ i = .int .i64 j ∧ Hid (RDsk wr F' g n D') ∧ Hid (∀ x ∈ F', x ∈ F ∨ w.heap.size ≤ x) ∧ Hid (TS F w wr) ∧ Hid (R = svF n k xs (8 - j) j D')) (fun i _ => 8 - (intOf i).toNat)
        case atStart => exact ⟨0, D, F, by omega, rfl, H0, Lib.hid (fun x hx => .inl hx), Lib.hid (TS.refl _ _), HRR⟩
        case round =>
          obtain ⟨j, D', F', hj, rfl, HD, HFF, HT, HRJ⟩ := hrel
          by_cases hlt : j < 8
          · have hz : (j : Int) < 8 := by omega
            have HJ := Lib.hid hlt
            have hw1 : IntKind.i64.wrap (8 * k) = k * 8 := by rw [IntKind.wrap_i64]; have := HK.out; have := HN.out; omega
            have hw2 : IntKind.i64.wrap (k * 8 + (j : Int)) = k * 8 + (j : Int) := by rw [IntKind.wrap_i64]; have := HK.out; have := HN.out; omega
            have hw3 : IntKind.i64.wrap ((j : Int) + 1) = (j : Int) + 1 := by rw [IntKind.wrap_i64]; omega
            obtain ⟨kk, hkk⟩ : ∃ kk, kk = 512 * j := ⟨_, rfl⟩
            have hw4 : IntKind.i64.wrap (512 * (j : Int)) = (kk : Int) := by rw [IntKind.wrap_i64]; omega
            have hw5 : IntKind.i64.wrap ((kk : Int) + 512) = (kk : Int) + 512 := by rw [IntKind.wrap_i64]; omega
            obtain ⟨A34, hcut, hcr, hcb⟩ := cut_at A ca xs kk 512 (by rw [HXL.out]; omega) HCA.out
            rw [HXL.out] at hcut
            have hcut : ∀ W, (Instr.slice 22 (.slice A 4096 ca) (some (.int .i64 (kk : Int))) (some (.int .i64 ((kk : Int) + 512))) none).run Try.prog W = .ok (.slice A34 512 (ca - kk)) W := hcut
            have hsl : (sec xs j).length = 512 := sec_len (n := 8) HXL.out hlt
            have hrs : Rd wr A34 (sec xs j) := by
              have := hcr wr (HT.out.rd HX.out HAF.out)
              rw [hkk] at this
              exact this
            have hA34 : ∀ ad, A34 = some ad → ad.block < w.heap.size ∧ ad.block ∉ F := fun ad ha => by
              have hq := hcb (by have := HCA.out; have := HXL.out; omega)
              rw [hq] at ha
              cases A with
              | none => cases ha
              | some a0 =>
                have hb0 : ad.block = a0.block := by
                  simp only [Option.map_some, Option.some.injEq] at ha
                  rw [← ha]; unfold Addr.add; split <;> rfl
                rw [hb0]
                refine ⟨?_, HAF.out a0 rfl⟩
                obtain ⟨b, o, e2, h2, -⟩ := Rd.form HX.out (by have := HXL.out; omega)
                cases e2; exact h2
            have HC := Lib.hid (ref_Write HD.out (k * 8 + (j : Int)) A34 512 (ca - kk) (sec xs j) hsl.symm (by rw [hsl]; omega) hrs (fun ad ha hm => by
              rcases HFF.out _ hm with hm | hm
              · exact (hA34 ad ha).2 hm
              · have := (hA34 ad ha).1; omega))
            have hrj := HRJ.out
            rw [show 8 - j = (7 - j) + 1 from by omega, svF] at hrj
            have HRJ2 := Lib.hid hrj
            generalize sdWrite D' n (k * 8 + (j : Int)) (sec xs j) = t at *
            obtain ⟨er, D2⟩ := t
            clear hrj HRJ hcr hcb hsl hrs hA34 hkk hlt hj
            go_wp2_with fail
            refine HC.out.mono ?_
            rintro e w2 ⟨rfl, F2, hf2, hd2, ht2⟩
            have HD2 := Lib.hid hd2
            have HF2 := Lib.hid (show ∀ x ∈ F2, x ∈ F ∨ w.heap.size ≤ x from fun x hx => by
              rcases hf2 x hx with h | h
              · exact HFF.out x h
              · right; exact Nat.le_trans HT.out.size h)
            have HT2 := Lib.hid (HT.out.trans ht2 HFF.out)
            clear hf2 hd2 ht2 HC hcut hw4 hw5 HD HT
            by_cases he : er = 0
            · subst he
              have hrj := HRJ2.out
              rw [if_pos rfl] at hrj
              have HRJ3 := Lib.hid hrj
              clear hrj HRJ2
              go_wp2
              go_roundw
              case rel => exact ⟨j + 1, D2, F2, by have := HJ.out; omega, by go_num, HD2, HF2, HT2, Lib.hid (by rw [show 8 - (j + 1) = 7 - j by omega]; exact HRJ3.out)⟩
              case measure => (show 8 - ((j : Int) + 1).toNat < 8 - ((j : Int)).toNat; have := HJ.out; omega)
            · have heb : (er != 0) = true := by simpa using he
              have hrj := HRJ2.out
              rw [if_neg he] at hrj
              have HRJ3 := Lib.hid hrj
              clear hrj HRJ2 he
              go_wp2
              go_ret
              rw [HRJ3.out]
              exact ⟨rfl, F2, HF2.out, HD2.out, HT2.out⟩
          · obtain rfl : j = 8 := by omega
            have hq := HRJ.out
            rw [svF] at hq
            have HRJ3 := Lib.hid hq
            clear hq HRJ
            go_wp2
            go_ret
            rw [HRJ3.out]
            exact ⟨rfl, F', HFF.out, HD.out, HT.out⟩
      · rw [if_pos (.inr hx)] at hR
        subst hR
        have hxe : ((xs.length : Int) != 4096) = true := by rw [bne_iff_ne]; omega
        clear hx hl hca hm
        go_enter Try.func55, Try.ntmps55
        go_wp2_with fail
        refine HP.out.mono ?_
        rintro e w1 ⟨rfl, rfl⟩
        go_wp2
        go_ret
        exact ⟨rfl, F, fun x hx => .inl hx, H0.out, TS.refl _ _⟩
end Go.Proofs.Ytihljjfnjclefaa
/- the reference of layer 5 over the reference's disk: Pages, Load, Save. -/
set_option linter.unusedVariables false
set_option linter.unusedSimpArgs false
namespace Go.Proofs.Ytihljjfnjclefaa
open Go.ChangeShapes Go.WideShapes Go.ChangeAt Go.RowKit Go.MapKept
set_option maxRecDepth 100000

set_option maxHeartbeats 2000000 in
theorem r5_LoadC {w : World} {F : List Nat} {g n : Nat} {D : DiskSt} (h : RDsk w F g n D) (k : Int) :
    Calls Try.prog 56 #[.pointer (some ⟨g, 0, none⟩), .int .i64 k] w fun e w' => ∃ A c, e = .returned (.tuple #[.slice A (sdLoad D n k).1.length c, .int .i64 (sdLoad D n k).2.1]) ∧ Rd w' A (sdLoad D n k).1 ∧ (∀ ad, A = some ad → w.heap.size ≤ ad.block) ∧ RDsk w' F g n (sdLoad D n k).2.2 ∧ TS F w w' ∧ (sdLoad D n k).1.length ≤ c ∧ c ≤ maxLen := by
  have H := Lib.hid h
  have HP := Lib.hid (r5_Pages h)
  have HF := Lib.hid h.lt
  have HN := Lib.hid h.ok.n2
  obtain ⟨R, hR⟩ : ∃ R, R = sdLoad D n k := ⟨_, rfl⟩
  rw [← hR]
  unfold sdLoad at hR
  clear h
  obtain ⟨m, hm⟩ : ∃ m : Nat, m = n / 8 := ⟨_, rfl⟩
  have HM := Lib.hid hm
  rw [← hm] at HP
  by_cases ho : pgOut n k
  · rw [if_pos ho] at hR
    subst hR
    unfold pgOut at ho
    rw [← hm] at ho
    clear hm
    by_cases hneg : k < 0
    · clear ho
      go_enter Try.func56, Try.ntmps56
      go_wp2
      go_ret2
      exact ⟨none, 0, rfl, Rd.nil _ _, fun ad ha => (by cases ha), H.out, TS.refl _ _, by simp, by simp [maxLen]⟩
    · have hbig : (m : Int) ≤ k := by omega
      clear ho
      go_enter Try.func56, Try.ntmps56
      go_wp2_with fail
      refine HP.out.mono ?_
      rintro e w1 ⟨rfl, rfl⟩
      go_wp2
      go_ret2
      exact ⟨none, 0, rfl, Rd.nil _ _, fun ad ha => (by cases ha), H.out, TS.refl _ _, by simp, by simp [maxLen]⟩
  · rw [if_neg ho] at hR
    unfold pgOut at ho
    rw [← hm] at ho
    have HK := Lib.hid (show 0 ≤ k ∧ k < (m : Int) ∧ (m : Int) * 8 ≤ n from by omega)
    have hneg : ¬ k < 0 := by omega
    have hbig : ¬ (m : Int) ≤ k := by omega
    have HRR := Lib.hid hR
    clear ho hR hm
    go_enter Try.func56, Try.ntmps56
    go_wp2_with fail
    refine HP.out.mono ?_
    rintro e w1 ⟨rfl, rfl⟩
    go_wp2_with fail
    clear hneg hbig
    go_loopw [6, 7] (fun v i wr => ∃ (j : Nat) (out : List Byte) (D' : DiskSt), j ≤ 8 ∧ i = .int .i64 j ∧ Hid (out.length ≤ 512 * j) ∧ Hid (Own wr w.heap.size v out) ∧ Hid (RDsk wr F g n D') ∧ Hid (TS F w wr) ∧ Hid (R = ldF n k (8 - j) j out D')) (fun _ i _ => 8 - (intOf i).toNat)
    case atStart => exact ⟨0, [], D, by omega, rfl, Lib.hid (by simp), Lib.hid (Own.nil _ _), H, Lib.hid (TS.refl _ _), HRR⟩
    case round =>
      obtain ⟨j, out, D', hj, rfl, HOL, HO, HD, HT, HRJ⟩ := hrel
      by_cases hlt : j < 8
      · have hz : (j : Int) < 8 := by omega
        have hw1 : IntKind.i64.wrap (8 * k) = k * 8 := by rw [IntKind.wrap_i64]; have := HK.out; have := HN.out; omega
        have hw2 : IntKind.i64.wrap (k * 8 + (j : Int)) = k * 8 + (j : Int) := by rw [IntKind.wrap_i64]; have := HK.out; have := HN.out; omega
        have hw3 : IntKind.i64.wrap ((j : Int) + 1) = (j : Int) + 1 := by rw [IntKind.wrap_i64]; omega
        have HJ := Lib.hid hlt
        have hrj := HRJ.out
        rw [show 8 - j = (7 - j) + 1 from by omega, ldF] at hrj
        have HRJ2 := Lib.hid hrj
        have HRL := Lib.hid (sdRead_le HD.out.ok (k * 8 + (j : Int)))
        have HC := Lib.hid (ref_Read HD.out (k * 8 + (j : Int)))
        generalize sdRead D' n (k * 8 + (j : Int)) = t at *
        obtain ⟨b, er, D2⟩ := t
        have HRL := Lib.hid (show b.length ≤ 512 from HRL.out)
        clear hlt hj hrj HRJ
        go_wp2_with fail
        refine HC.out.mono ?_
        rintro e w2 ⟨A9, c9, rfl, hr, hnew, hd, ht⟩
        have HR9 := Lib.hid (show Rd w2 A9 b from hr)
        have HD2 := Lib.hid hd
        have HT2 := Lib.hid (HT.out.then ht)
        have HOF := Lib.hid (OwnV.base HO.out)
        have HO2 := Lib.hid (ht.ownV HO.out (fun kk hk hm => by have h1 := (HOF.out kk hk).1; have := HF.out kk hm; omega))
        clear hr hnew hd ht HC HO HD HT
        by_cases he : er = 0
        · subst he
          have hrj := HRJ2.out
          rw [if_pos rfl] at hrj
          have HRJ3 := Lib.hid hrj
          clear hrj HRJ2
          go_wp2_with (at_builtin; refine wpList_append_bytes rfl _ _ rfl w.heap.size _ out HO2.out rfl A9 c9 b rfl HR9.out (by have := HRL.out; have := HOL.out; have := HJ.out; omega) HT2.out.size ?_; intro v' w3 ho hg hob; have HO3 := Lib.hid ho; have HG := Lib.hid hg; clear ho hg hob)
          have HD3 := Lib.hid (HD2.out.ts (TS.grown HG.out) (fun x hx hm => by have h1 := (HOF.out x (by simpa using hx)).1; have := HF.out x hm; omega))
          have HT3 := Lib.hid (HT2.out.trans (TS.grown HG.out) (fun x hx => .inr (HOF.out x (by simpa using hx)).1))
          go_roundw
          case rel => exact ⟨j + 1, out ++ b, D2, by have := HJ.out; omega, by go_num, Lib.hid (by rw [List.length_append]; have := HRL.out; have := HOL.out; omega), HO3, HD3, HT3, Lib.hid (by rw [show 8 - (j + 1) = 7 - j by omega]; exact HRJ3.out)⟩
          case measure => (show 8 - ((j : Int) + 1).toNat < 8 - ((j : Int)).toNat; have := HJ.out; omega)
        · have heb : (er != 0) = true := by simpa using he
          have hrj := HRJ2.out
          rw [if_neg he] at hrj
          have HRJ3 := Lib.hid hrj
          clear hrj HRJ2 he
          go_wp2
          go_ret2
          rw [HRJ3.out]
          exact ⟨none, 0, rfl, Rd.nil _ _, fun ad ha => (by cases ha), HD2.out, HT2.out, by simp, by simp [maxLen]⟩
      · obtain rfl : j = 8 := by omega
        have hq := HRJ.out
        rw [ldF] at hq
        have HQ := Lib.hid hq
        obtain ⟨A7, c7, rfl, h1, h2, h3, h4⟩ := Own.form HO.out
        have HE := Lib.hid (And.intro h3 h4)
        have HCB := Lib.hid (And.intro h1 h2)
        clear hq HRJ HO h1 h2 h3 h4
        go_wp2
        go_ret2
        rw [HQ.out]
        exact ⟨A7, c7, rfl, HE.out.1, fun ad ha => (HE.out.2 ad ha).1, HD.out, HT.out, HCB.out.1, HCB.out.2⟩
end Go.Proofs.Ytihljjfnjclefaa
