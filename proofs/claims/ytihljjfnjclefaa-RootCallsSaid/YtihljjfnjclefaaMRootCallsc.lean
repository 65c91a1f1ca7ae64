/- Walks and laws that the claim's last text stands on, several texts in one file: RtG, RootCallsW. Under the hypotheses that each theorem states. -/
import Derived.Test.YtihljjfnjclefaaMRta
import Derived.Test.YtihljjfnjclefaaMRtb
import Derived.Test.YtihljjfnjclefaaMRtc
import Derived.Test.YtihljjfnjclefaaMRtd
import Derived.Test.YtihljjfnjclefaaMRte
import Derived.Test.YtihljjfnjclefaaMRtf
import Derived.Test.YtihljjfnjclefaaMRtg
import Derived.Test.YtihljjfnjclefaaMRth
import Derived.Test.YtihljjfnjclefaaMRti
import Derived.Test.YtihljjfnjclefaaMRtj
import Derived.Test.YtihljjfnjclefaaMRtk
import Derived.Test.YtihljjfnjclefaaMRtl
import Derived.Test.YtihljjfnjclefaaMRootCallsa
import Derived.Test.YtihljjfnjclefaaMRootCallsb
/- root: the walk through Read of the reference. -/
set_option linter.unusedVariables false
set_option linter.unusedSimpArgs false
namespace Go.Proofs.Ytihljjfnjclefaa
open Go.ChangeShapes Go.WideShapes Go.ChangeAt Go.RowKit
attribute [local go_sem] nb_nonneg nb_lt8 nb_lt64
set_option maxRecDepth 100000

/-- A reader of the reference, and how many words it has read. -/
def RRx (W : World) (g : Nat) (x : List Byte) (j : Nat) : Prop := ∃ b o c, RR W g b o c (x.drop (8 * j))
theorem RRx.lt {W : World} {g j : Nat} {x : List Byte} (h : RRx W g x j) : g < W.heap.size := by obtain ⟨b, o, c, h⟩ := h; exact h.lt
theorem RRx.fb {W W' : World} {g j : Nat} {x : List Byte} (h : RRx W g x j) (k : FB W W') : RRx W' g x j := by obtain ⟨b, o, c, h⟩ := h; exact ⟨b, o, c, h.fb k⟩
theorem RRx.tb {W W' : World} {g g' j : Nat} {x : List Byte} (h : RRx W g x j) (k : TB g' W W') (hg : g < g') : RRx W' g x j := by obtain ⟨b, o, c, h⟩ := h; exact ⟨b, o, c, h.tb k hg⟩
theorem rr_step {g : Nat} {x : List Byte} {W : World} (j : Nat) (h : RRx W g x j) (hn : 8 * j + 8 < x.length) (hl : x.length ≤ 5000) :
    Calls Try.prog 53 #[.pointer (some ⟨g, 0, none⟩), .int .i64 8] W fun e w' => e = .returned (.int .u64 (nb (rw8 x j))) ∧ RRx w' g x (j + 1) ∧ TB g W w' := by
  obtain ⟨b, o, c, h⟩ := h
  refine (rrl_Word _ _ g b o c W rfl (by rw [List.length_drop]; omega) h (by rw [List.length_drop]; omega)).mono (fun e w' k => ⟨k.1, ⟨b, o + 8, c - 8, ?_⟩, k.2.2⟩)
  have q := k.2.1
  rwa [List.drop_drop, show 8 * j + 8 = 8 * (j + 1) by omega] at q
set_option maxHeartbeats 8000000 in
theorem r6_Read (b : List Byte) (A : Option Addr) (c : Nat) (w : World) (hl : b.length ≤ 1000000000) (hc : b.length ≤ c) (hm : c ≤ maxLen) (hr : Rd w A b) :
    Calls Try.prog 25 #[.slice A b.length c] w fun e w' => e = .returned (.tuple #[rtV (rtR b).1, .int .i64 (rtR b).2]) ∧ FB w w' := by
  obtain ⟨W1, hW1⟩ : ∃ W1 : World, W1 = w.alloc (.cells (rtCs rt0) 29) := ⟨_, rfl⟩
  have HS := Lib.hid (show RdSt w W1 w.heap.size from by rw [hW1]; exact ⟨(FB.refl w).alloc _, heap_alloc_new w _, Nat.le_refl _⟩)
  have HW1 := Lib.hid hW1
  have HC1 := Lib.hid (r5_Read b A c W1 hl hc hm (HS.out.fb.rd hr))
  obtain ⟨R, hR⟩ : ∃ R, R = rtR b := ⟨_, rfl⟩
  rw [← hR]
  have HFAR := Lib.hid (fun h => hR.trans (@rtR_far b h))
  have HZ := Lib.hid (@pgR_zero b)
  unfold rtR at hR
  generalize pgR b = p at *
  obtain ⟨⟨K, n, x⟩, er⟩ := p
  simp only at hR
  have HR := Lib.hid hR
  have HRB := Lib.hid hr
  clear hW1 hR hl hc hm hr
  have hrs : ∀ W, FB w W → (convert 22 9 (.slice A b.length c)).run Try.prog W = .ok (.string (sb b)) W := fun W h => run_string c (h.rd HRB.out)
  have HSB := Lib.hid hrs
  clear hrs
  go_enter Try.func25, Try.ntmps25
  go_upto_region 1 with fail
  rw [← rt0_cs, ← HW1.out]
  clear HW1
  go_wp2_with fail
  refine HC1.out.mono ?_
  rintro e w1 ⟨A1, c1, rfl, hrx, hx1, hxm, hb⟩
  simp only at hrx hx1
  have HRX := Lib.hid hrx
  have HX := Lib.hid (And.intro hx1 hxm)
  have HS1 := Lib.hid (HS.out.fbn hb)
  clear hrx hx1 hxm hb HS HC1
  obtain ⟨W2, hW2⟩ : ∃ W2 : World, W2 = w1.alloc (.cells #[.int .i64 K, .int .u32 (nb n), .slice A1 x.length c1] 71) := ⟨_, rfl⟩
  have HS2 := Lib.hid (show RdSt w W2 w.heap.size from by rw [hW2]; exact HS1.out.fbn ((FB.refl _).alloc _))
  have HRX2 := Lib.hid (show Rd W2 A1 x from by rw [hW2]; exact HRX.out.alloc _)
  obtain ⟨p0, p1, p2⟩ := prow3 (heap_alloc_new w1 (.cells #[.int .i64 K, .int .u32 (nb n), .slice A1 x.length c1] 71))
  rw [← hW2] at p0 p1 p2
  have HW2 := Lib.hid hW2
  clear hW2 HS1 HRX
  have hs0 := rt_store rt0 rt0 HS2.out.row
  unfold rtV at hs0
  rw [rt0_cs] at hs0
  have HE0 := Lib.hid (show FB w (W2.setRow w.heap.size (rtCs rt0)) ∧ (W2.setRow w.heap.size (rtCs rt0)).heap[w.heap.size]? = some (.cells (rtCs rt0) 29 (0, 0)) from ⟨HS2.out.fb.setRow (Nat.le_refl _) _, setRow_heap _ _ _ (rtCs rt0) _ _ HS2.out.row⟩)
  by_cases her : er = 0
  · subst her
    by_cases hK : K = 1
    · subst hK
      have HXL := Lib.hid (show x.length = 4080 from HZ.out rfl)
      clear hs0 HE0 HFAR HZ
      go_upto_region 4 with fail
      rw [← HW2.out]
      clear HW2
      have hnw := rrl_New x A1 4080 c1 W2 HXL.out.symm (by rw [HXL.out]; omega) (by rw [HXL.out]; omega) HRX2.out
      have HNW := Lib.hid hnw
      rw [HXL.out] at p2
      clear hnw
      go_wp2_with fail
      refine HNW.out.mono ?_
      rintro e w3 ⟨g, b3, c3, rfl, hrr, hge, hb⟩
      have HS3 := Lib.hid (HS2.out.fbn hb)
      have HD3 := Lib.hid (show RRx w3 g x 0 from ⟨b3, 0, c3, hrr⟩)
      have HNG := Lib.hid (show w.heap.size < g from Nat.lt_of_lt_of_le HS2.out.lt hge)
      clear hrr hge hb HNW HS2 HRX2 p0 p1 p2
      obtain ⟨W4, hW4⟩ : ∃ W4 : World, W4 = w3.alloc (.cells (rtCs rt0) 29) := ⟨_, rfl⟩
      have HS4 := Lib.hid (show RdSt w W4 w.heap.size from by rw [hW4]; exact HS3.out.fbn ((FB.refl _).alloc _))
      have HD4 := Lib.hid (show RRx W4 g x 0 from by rw [hW4]; exact HD3.out.fb ((FB.refl _).alloc _))
      have HG4 := Lib.hid (show W4.heap[w3.heap.size]? = some (.cells (rtCs rt0) 29 (0, 0)) from by rw [hW4]; exact heap_alloc_new w3 _)
      have HGG := Lib.hid (show g < w3.heap.size from HD3.out.lt)
      have HW4 := Lib.hid hW4
      clear hW4 HS3 HD3
      go_upto_region 6 with fail
      rw [← rt0_cs, ← HW4.out]
      clear HW4
      have hcw := rr_step 0 HD4.out (by rw [HXL.out]; omega) (by rw [HXL.out]; omega)
      have HC := Lib.hid hcw
      clear hcw
      go_wp2_with fail
      refine HC.out.mono ?_
      rintro e w5 ⟨rfl, hrd, hb⟩
      have HS5 := Lib.hid (HS4.out.tb hb HNG.out)
      have HD5 := Lib.hid hrd
      have HG5 := Lib.hid ((hb.out.block _ (Array.getElem?_eq_some_iff.1 HG4.out).1 (fun e => by have := HGG.out; simp at e; omega)).trans HG4.out)
      clear hrd hb HC HS4 HD4 HG4
      have hcw := rr_step 1 HD5.out (by rw [HXL.out]; omega) (by rw [HXL.out]; omega)
      have HC := Lib.hid hcw
      clear hcw
      go_wp2_with fail
      refine HC.out.mono ?_
      rintro e w6 ⟨rfl, hrd, hb⟩
      have HS6 := Lib.hid (HS5.out.tb hb HNG.out)
      have HD6 := Lib.hid hrd
      have HG6 := Lib.hid ((hb.out.block _ (Array.getElem?_eq_some_iff.1 HG5.out).1 (fun e => by have := HGG.out; simp at e; omega)).trans HG5.out)
      clear hrd hb HC HS5 HD5 HG5
      have hcw := rr_step 2 HD6.out (by rw [HXL.out]; omega) (by rw [HXL.out]; omega)
      have HC := Lib.hid hcw
      clear hcw
      go_wp2_with fail
      refine HC.out.mono ?_
      rintro e w7 ⟨rfl, hrd, hb⟩
      have HS7 := Lib.hid (HS6.out.tb hb HNG.out)
      have HD7 := Lib.hid hrd
      have HG7 := Lib.hid ((hb.out.block _ (Array.getElem?_eq_some_iff.1 HG6.out).1 (fun e => by have := HGG.out; simp at e; omega)).trans HG6.out)
      clear hrd hb HC HS6 HD6 HG6
      have hcw := rr_step 3 HD7.out (by rw [HXL.out]; omega) (by rw [HXL.out]; omega)
      have HC := Lib.hid hcw
      clear hcw
      go_wp2_with fail
      refine HC.out.mono ?_
      rintro e w8 ⟨rfl, hrd, hb⟩
      have HS8 := Lib.hid (HS7.out.tb hb HNG.out)
      have HD8 := Lib.hid hrd
      have HG8 := Lib.hid ((hb.out.block _ (Array.getElem?_eq_some_iff.1 HG7.out).1 (fun e => by have := HGG.out; simp at e; omega)).trans HG7.out)
      clear hrd hb HC HS7 HD7 HG7
      have hcw := rr_step 4 HD8.out (by rw [HXL.out]; omega) (by rw [HXL.out]; omega)
      have HC := Lib.hid hcw
      clear hcw
      go_wp2_with fail
      refine HC.out.mono ?_
      rintro e w9 ⟨rfl, hrd, hb⟩
      have HS9 := Lib.hid (HS8.out.tb hb HNG.out)
      have HD9 := Lib.hid hrd
      have HG9 := Lib.hid ((hb.out.block _ (Array.getElem?_eq_some_iff.1 HG8.out).1 (fun e => by have := HGG.out; simp at e; omega)).trans HG8.out)
      clear hrd hb HC HS8 HD8 HG8
      generalize w3.heap.size = gR at *
      obtain ⟨q0, q1, q2, q3, q4, -⟩ := prow9 HG9.out
      have f0 := frozen_row _ HG9.out 0
      have f1 := frozen_row _ HG9.out 1
      have f2 := frozen_row _ HG9.out 2
      have f3 := frozen_row _ HG9.out 3
      have f4 := frozen_row _ HG9.out 4
      obtain ⟨WA, hWA⟩ : ∃ WA : World, WA = ((((w9.setCell ⟨gR, 0, none⟩ (.int .u64 (nb (rw8 x 0)))).setCell ⟨gR, 1, none⟩ (.int .u64 (nb (rw8 x 1)))).setCell ⟨gR, 2, none⟩ (.int .u64 (nb (rw8 x 2)))).setCell ⟨gR, 3, none⟩ (.int .u64 (nb (rw8 x 3)))).setCell ⟨gR, 4, none⟩ (.int .u64 (nb (rw8 x 4))) := ⟨_, rfl⟩
      have HTA := Lib.hid (show TB gR w9 WA from by rw [hWA]; exact ((((TB.set w9 0 _).trans (TB.set _ 1 _)).trans (TB.set _ 2 _)).trans (TB.set _ 3 _)).trans (TB.set _ 4 _))
      have HGA := Lib.hid (show WA.heap[gR]? = some (.cells (rtCs (rtPart x 0)) 29 (0, 0)) from by
        rw [hWA]
        have h0 := heap_setCell_same w9 gR 0 _ _ (.int .u64 (nb (rw8 x 0))) HG9.out
        have h1 := heap_setCell_same _ gR 1 _ _ (.int .u64 (nb (rw8 x 1))) h0
        have h2 := heap_setCell_same _ gR 2 _ _ (.int .u64 (nb (rw8 x 2))) h1
        have h3 := heap_setCell_same _ gR 3 _ _ (.int .u64 (nb (rw8 x 3))) h2
        have h4 := heap_setCell_same _ gR 4 _ _ (.int .u64 (nb (rw8 x 4))) h3
        rw [h4]; rfl)
      have HWA := Lib.hid hWA
      have HSA := Lib.hid (HS9.out.tb HTA.out (by have := HGG.out; have := HNG.out; omega))
      have HDA := Lib.hid (HD9.out.tb HTA.out HGG.out)
      clear hWA HTA HS9 HD9
      go_upto_region 7 with fail
      rw [← HWA.out]
      clear HWA HG9 q0 q1 q2 q3 q4 f0 f1 f2 f3 f4
      go_wp2_with fail
      go_loopw [8] (fun i wr => ∃ k : Nat, k ≤ 4 ∧ i = .int .i64 k ∧ Hid (RRx wr g x (5 + k)) ∧ Hid (wr.heap[gR]? = some (.cells (rtCs (rtPart x k)) 29 (0, 0))) ∧ Hid (RdSt w wr w.heap.size)) (fun i _ => 4 - (intOf i).toNat)
      case atStart => exact ⟨0, by omega, rfl, HDA, HGA, HSA⟩
      case round =>
        obtain ⟨k, hk, rfl, HD, HG, HS⟩ := hrel
        rcases (show k = 0 ∨ k = 1 ∨ k = 2 ∨ k = 3 ∨ k = 4 by omega) with rfl | rfl | rfl | rfl | rfl
        · have hcw := rr_step (5 + 0) HD.out (by rw [HXL.out]; omega) (by rw [HXL.out]; omega)
          have HC := Lib.hid hcw
          clear hcw
          go_wp2_with fail
          refine HC.out.mono ?_
          rintro e wq ⟨rfl, hrd, hb⟩
          have HSq := Lib.hid (HS.out.tb hb HNG.out)
          have HDq := Lib.hid hrd
          have hgq := (hb.out.block _ (Array.getElem?_eq_some_iff.1 HG.out).1 (fun e => by have := HGG.out; simp at e; omega)).trans HG.out
          have HGq := Lib.hid hgq
          have hq := (prow9 hgq).2.2.2.2.2.1
          have hfz := frozen_row _ hgq 5
          clear hrd hb HC hgq
          go_wp2_with fail
          go_round
          case rel =>
            refine ⟨1, by omega, rfl, Lib.hid (HDq.out.tb (TB.set (g := gR) wq 5 _) HGG.out), Lib.hid ?_, Lib.hid (HSq.out.tb (TB.set (g := gR) wq 5 _) (by have := HGG.out; have := HNG.out; omega))⟩
            rw [heap_setCell_same wq gR 5 _ _ _ HGq.out]
            rfl
          case measure => simp [intOf]
        · have hcw := rr_step (5 + 1) HD.out (by rw [HXL.out]; omega) (by rw [HXL.out]; omega)
          have HC := Lib.hid hcw
          clear hcw
          go_wp2_with fail
          refine HC.out.mono ?_
          rintro e wq ⟨rfl, hrd, hb⟩
          have HSq := Lib.hid (HS.out.tb hb HNG.out)
          have HDq := Lib.hid hrd
          have hgq := (hb.out.block _ (Array.getElem?_eq_some_iff.1 HG.out).1 (fun e => by have := HGG.out; simp at e; omega)).trans HG.out
          have HGq := Lib.hid hgq
          have hq := (prow9 hgq).2.2.2.2.2.2.1
          have hfz := frozen_row _ hgq 6
          clear hrd hb HC hgq
          go_wp2_with fail
          go_round
          case rel =>
            refine ⟨2, by omega, rfl, Lib.hid (HDq.out.tb (TB.set (g := gR) wq 6 _) HGG.out), Lib.hid ?_, Lib.hid (HSq.out.tb (TB.set (g := gR) wq 6 _) (by have := HGG.out; have := HNG.out; omega))⟩
            rw [heap_setCell_same wq gR 6 _ _ _ HGq.out]
            rfl
          case measure => simp [intOf]
        · have hcw := rr_step (5 + 2) HD.out (by rw [HXL.out]; omega) (by rw [HXL.out]; omega)
          have HC := Lib.hid hcw
          clear hcw
          go_wp2_with fail
          refine HC.out.mono ?_
          rintro e wq ⟨rfl, hrd, hb⟩
          have HSq := Lib.hid (HS.out.tb hb HNG.out)
          have HDq := Lib.hid hrd
          have hgq := (hb.out.block _ (Array.getElem?_eq_some_iff.1 HG.out).1 (fun e => by have := HGG.out; simp at e; omega)).trans HG.out
          have HGq := Lib.hid hgq
          have hq := (prow9 hgq).2.2.2.2.2.2.2.1
          have hfz := frozen_row _ hgq 7
          clear hrd hb HC hgq
          go_wp2_with fail
          go_round
          case rel =>
            refine ⟨3, by omega, rfl, Lib.hid (HDq.out.tb (TB.set (g := gR) wq 7 _) HGG.out), Lib.hid ?_, Lib.hid (HSq.out.tb (TB.set (g := gR) wq 7 _) (by have := HGG.out; have := HNG.out; omega))⟩
            rw [heap_setCell_same wq gR 7 _ _ _ HGq.out]
            rfl
          case measure => simp [intOf]
        · have hcw := rr_step (5 + 3) HD.out (by rw [HXL.out]; omega) (by rw [HXL.out]; omega)
          have HC := Lib.hid hcw
          clear hcw
          go_wp2_with fail
          refine HC.out.mono ?_
          rintro e wq ⟨rfl, hrd, hb⟩
          have HSq := Lib.hid (HS.out.tb hb HNG.out)
          have HDq := Lib.hid hrd
          have hgq := (hb.out.block _ (Array.getElem?_eq_some_iff.1 HG.out).1 (fun e => by have := HGG.out; simp at e; omega)).trans HG.out
          have HGq := Lib.hid hgq
          have hq := (prow9 hgq).2.2.2.2.2.2.2.2
          have hfz := frozen_row _ hgq 8
          clear hrd hb HC hgq
          go_wp2_with fail
          go_round
          case rel =>
            refine ⟨4, by omega, rfl, Lib.hid (HDq.out.tb (TB.set (g := gR) wq 8 _) HGG.out), Lib.hid ?_, Lib.hid (HSq.out.tb (TB.set (g := gR) wq 8 _) (by have := HGG.out; have := HNG.out; omega))⟩
            rw [heap_setCell_same wq gR 8 _ _ _ HGq.out]
            rfl
          case measure => simp [intOf]
        · obtain ⟨s, hs⟩ : ∃ s, s = rtOf x := ⟨_, rfl⟩
          have HG2 := Lib.hid (show wr.heap[gR]? = some (.cells (rtCs s) 29 (0, 0)) from by rw [hs]; exact HG.out)
          rw [← hs] at HR
          obtain ⟨q0, q1, q2, q3, q4, q5, q6, q7, q8⟩ := prow9 HG2.out
          have hcb := r6_Bytes s wr
          unfold rtV rtCs at hcb
          generalize hys : rtB s = yb at *
          obtain ⟨ys, eb⟩ := yb
          have HC := Lib.hid hcb
          clear hcb hs hys HG
          go_wp2_with fail
          refine HC.out.mono ?_
          rintro e w5 ⟨A5, c5, rfl, ho, hb⟩
          simp only at ho
          have HO5 := Lib.hid ho
          have HS5 := Lib.hid (HS.out.fbn hb)
          have HG5 := Lib.hid ((hb.block _ (Array.getElem?_eq_some_iff.1 HG2.out).1).trans HG2.out)
          clear ho hb HC HS HG2 HD q0 q1 q2 q3 q4 q5 q6 q7 q8
          have hs0 := rt_store rt0 rt0 HS5.out.row
          unfold rtV at hs0
          rw [rt0_cs] at hs0
          have HE0 := Lib.hid (show FB w (w5.setRow w.heap.size (rtCs rt0)) ∧ (w5.setRow w.heap.size (rtCs rt0)).heap[w.heap.size]? = some (.cells (rtCs rt0) 29 (0, 0)) from ⟨HS5.out.fb.setRow (Nat.le_refl _) _, setRow_heap _ _ _ (rtCs rt0) _ _ HS5.out.row⟩)
          by_cases heb : eb = 0
          · subst heb
            have hs1 := run_string c5 (Own.info HO5.out).2.2.1
            have hs2 := HSB.out w5 HS5.out.fb
            by_cases hyb : ys = b
            · have hse : ((sb ys).toList == (sb b).toList) = true := by rw [sb_beq]; simpa using hyb
              have HRR := Lib.hid (show R = (s, 0) from by rw [HR.out, if_pos ⟨trivial, trivial, by rw [hyb]⟩])
              obtain ⟨q0, q1, q2, q3, q4, q5, q6, q7, q8⟩ := prow9 HG5.out
              have hst := rt_store rt0 s HS5.out.row
              have HEs := Lib.hid (show FB w (w5.setRow w.heap.size (rtCs s)) ∧ (w5.setRow w.heap.size (rtCs s)).heap[w.heap.size]? = some (.cells (rtCs s) 29 (0, 0)) from ⟨HS5.out.fb.setRow (Nat.le_refl _) _, setRow_heap _ _ _ (rtCs s) _ _ HS5.out.row⟩)
              unfold rtV rtCs at hst
              clear hyb hs0 HE0
              go_wp2_with (refine wpList_store_by rfl _ _ _ rfl _ hst ?_)
              try simp only [Exit.inBlock, Exit.then]
              refine bodyPost_ret (rt_ret rfl _ w.heap.size rfl _ HEs.out.2) rfl ?_
              rw [HRR.out]
              exact ⟨rfl, HEs.out.1⟩
            · have hse : ((sb ys).toList == (sb b).toList) = false := by rw [sb_beq]; simpa using hyb
              have HRR := Lib.hid (show R = (rt0, 4) from by rw [HR.out, if_neg (fun h => hyb (congrArg Prod.fst h.2.2))])
              clear hyb
              go_wp2_with (refine wpList_store_by rfl _ _ _ rfl _ hs0 ?_)
              try simp only [Exit.inBlock, Exit.then]
              refine bodyPost_ret (rt_ret rfl _ w.heap.size rfl _ HE0.out.2) rfl ?_
              rw [HRR.out]
              exact ⟨rfl, HE0.out.1⟩
          · have hkb : (eb != 0) = true := by simpa using heb
            have HRR := Lib.hid (show R = (rt0, 4) from by rw [HR.out, if_neg (fun h => heb (congrArg Prod.snd h.2.2))])
            clear heb
            go_wp2_with (refine wpList_store_by rfl _ _ _ rfl _ hs0 ?_)
            try simp only [Exit.inBlock, Exit.then]
            refine bodyPost_ret (rt_ret rfl _ w.heap.size rfl _ HE0.out.2) rfl ?_
            rw [HRR.out]
            exact ⟨rfl, HE0.out.1⟩
    · have hkb : (K != 1) = true := by simpa using hK
      have HRR := Lib.hid (show R = (rt0, 4) from HFAR.out (.inr hK))
      clear hK
      go_upto_region 2 with fail
      rw [← HW2.out]
      clear HW2
      go_wp2_with (refine wpList_store_by rfl _ _ _ rfl _ hs0 ?_)
      try simp only [Exit.inBlock, Exit.then]
      refine bodyPost_ret (rt_ret rfl _ w.heap.size rfl _ HE0.out.2) rfl ?_
      rw [HRR.out]
      exact ⟨rfl, HE0.out.1⟩
  · have hkb : (er != 0) = true := by simpa using her
    have HRR := Lib.hid (show R = (rt0, 4) from HFAR.out (.inl her))
    clear her
    go_upto_region 2 with fail
    rw [← HW2.out]
    clear HW2
    go_wp2_with (refine wpList_store_by rfl _ _ _ rfl _ hs0 ?_)
    try simp only [Exit.inBlock, Exit.then]
    refine bodyPost_ret (rt_ret rfl _ w.heap.size rfl _ HE0.out.2) rfl ?_
    rw [HRR.out]
    exact ⟨rfl, HE0.out.1⟩
end Go.Proofs.Ytihljjfnjclefaa
/- The walk through RootCalls. -/
set_option linter.unusedVariables false
set_option linter.unusedSimpArgs false
namespace Go.Proofs.Ytihljjfnjclefaa
open Go.ChangeShapes Go.WideShapes Go.ChangeAt Go.RowKit
attribute [local go_sem] nb_nonneg nb_lt8 nb_lt64
set_option maxRecDepth 100000

theorem rt_boxed2 (w : World) (a b : Rt) : let W := (w.alloc (.cells (rtCs a) 29)).alloc (.cells (rtCs b) 29)
    FB w W ∧ W.heap[w.heap.size]? = some (.cells (rtCs a) 29 (0, 0)) ∧ W.heap[w.heap.size + 1]? = some (.cells (rtCs b) 29 (0, 0)) := by
  have f1 := (FB.refl (w.alloc (.cells (rtCs a) 29))).alloc (.cells (rtCs b) 29)
  refine ⟨((FB.refl w).alloc _).alloc _, ?_, ?_⟩
  · rw [f1.block _ (by simp)]; exact heap_alloc_new _ _
  · have := heap_alloc_new (w.alloc (.cells (rtCs a) 29)) (.cells (rtCs b) 29)
    simpa using this
theorem FB.kept {w W : World} (h : FB w W) {g : Nat} {o : Obj} (hg : w.heap[g]? = some o) : W.heap[g]? = some o := (h.block _ (Array.getElem?_eq_some_iff.1 hg).1).trans hg
set_option maxHeartbeats 4000000 in
theorem rootCalls_walk (r s : Rt) (isR isS : Bool) (C : Option Addr) (c3 : Nat) (b : List Byte) (at_ : Int) (by_ : BitVec 8) (w : World) (hc3 : b.length ≤ c3) (hm3 : c3 ≤ maxLen) (hr3 : Rd w C b) (hat : -9223372036854775808 ≤ at_ ∧ at_ ≤ 9223372036854775807) :
    Calls Try.prog 4 #[rtV r, rtV s, .bool isR, .bool isS, .slice C b.length c3, .int .i64 at_, .int .u8 (nb by_)] w fun e w' => e = .returned (.bool true) ∧ Below w.heap.size w w' := by
  obtain ⟨hf, h1, h2⟩ := rt_boxed2 w r s
  obtain ⟨W1, hW1⟩ : ∃ W1 : World, W1 = (w.alloc (.cells (rtCs r) 29)).alloc (.cells (rtCs s) 29) := ⟨_, rfl⟩
  simp only [← hW1] at hf h1 h2
  have HF0 := Lib.hid hf
  have HP0 := Lib.hid h1
  have HQ0 := Lib.hid h2
  have HW1 := Lib.hid hW1
  have HRB := Lib.hid hr3
  have HCB := Lib.hid (And.intro hc3 hm3)
  clear hf h1 h2 hW1 hc3 hm3 hr3 hat
  unfold rtV
  go_enter Try.func4, Try.ntmps4
  go_upto_region 1 with fail
  rw [← HW1.out]
  clear HW1
  go_wp2_with fail
  refine (rt_lives _).mono ?_
  rintro e w1 ⟨rfl, hb⟩
  have HF1 := Lib.hid (HF0.out.trans hb)
  have HP1 := Lib.hid (hb.kept HP0.out)
  have HQ1 := Lib.hid (hb.kept HQ0.out)
  clear hb HF0 HP0 HQ0
  generalize w.heap.size + 1 = gs at *
  by_cases h3 : 5000 < b.length
  · have hz3 : 5000 < (b.length : Int) := by omega
    go_wp2
    go_ret
    exact ⟨rfl, HF1.out⟩
  · have hz3 : ¬ 5000 < (b.length : Int) := by omega
    have HLB := Lib.hid (show b.length ≤ 5000 from by omega)
    clear h3
    generalize hrb : rtB r = rb
    have hc1 := rt_Bytes r
    have hc2 := r6_Bytes r
    rw [hrb] at hc1 hc2
    obtain ⟨ys, ey⟩ := rb
    unfold rtV rtCs at hc1 hc2
    have HCX1 := Lib.hid hc1
    have HCX2 := Lib.hid hc2
    have HYY := Lib.hid (rtB_len hrb)
    clear hrb hc1 hc2
    have qa := prow9 HP1.out
    go_upto_region 4 with fail
    go_wp2_with fail
    refine (HCX1.out _).mono ?_
    rintro e w2 ⟨A11, c11, rfl, ho, hb⟩
    simp only at ho
    have HO11 := Lib.hid ho
    have HF2 := Lib.hid (HF1.out.trans hb)
    have HP2 := Lib.hid (hb.kept HP1.out)
    have HQ2 := Lib.hid (hb.kept HQ1.out)
    clear ho hb HF1 HP1 HQ1 HCX1 qa
    have qa := prow9 HP2.out
    go_wp2_with fail
    refine (HCX2.out _).mono ?_
    rintro e w3 ⟨A13, c13, rfl, ho, hb⟩
    simp only at ho
    have HO13 := Lib.hid ho
    have HG13 := Lib.hid (show w.heap.size ≤ w2.heap.size from HF2.out.le)
    have HF3 := Lib.hid (HF2.out.trans hb)
    have HP3 := Lib.hid (hb.kept HP2.out)
    have HQ3 := Lib.hid (hb.kept HQ2.out)
    have HR11 := Lib.hid (hb.rd (Own.info HO11.out).2.2.1)
    clear ho hb HF2 HP2 HQ2 HCX2 HO11 qa
    have hc1 := rt_Choose r s isR isS
    have hc2 := r6_Choose r s isR isS
    generalize rtCh r s isR isS = ch at *
    obtain ⟨x, ok⟩ := ch
    unfold rtV rtCs at hc1 hc2
    have HC1 := Lib.hid hc1
    have HC2 := Lib.hid hc2
    clear hc1 hc2
    have qa := prow9 HP3.out
    have qb := prow9 HQ3.out
    go_wp2_with fail
    refine (HC1.out _).mono ?_
    rintro e v4 ⟨rfl, hb⟩
    obtain ⟨w4, hw⟩ : ∃ w4 : World, w4 = v4.alloc (.cells (rtCs x) 29) := ⟨_, rfl⟩
    have hbb : FB w3 w4 := by rw [hw]; exact hb.alloc _
    have HF4 := Lib.hid (HF3.out.trans hbb)
    have HP4 := Lib.hid (hbb.kept HP3.out)
    have HQ4 := Lib.hid (hbb.kept HQ3.out)
    have HR4 := Lib.hid (hbb.rd HR11.out)
    have HO4 := Lib.hid (FB.own hbb HO13.out)
    have HX4 := Lib.hid (show w4.heap[v4.heap.size]? = some (.cells (rtCs x) 29 (0, 0)) from by rw [hw]; exact heap_alloc_new v4 _)
    have HW := Lib.hid (show v4.alloc (.cells #[.int .u64 (nb x.E), .int .u64 (nb x.P), .int .u64 (nb x.T), .int .u64 (nb x.S), .int .u64 (nb x.L), .int .u64 (nb x.a), .int .u64 (nb x.b), .int .u64 (nb x.c), .int .u64 (nb x.d)] 29) = w4 from hw.symm)
    clear hb hbb hw HC1 HF3 HP3 HQ3 HR11 HO13 qa qb
    go_upto_region 8 with fail
    rw [HW.out]
    clear HW
    generalize v4.heap.size = gx at *
    have qa := prow9 HP4.out
    have qb := prow9 HQ4.out
    go_wp2_with fail
    refine (HC2.out _).mono ?_
    rintro e v5 ⟨rfl, hb⟩
    obtain ⟨w5, hw⟩ : ∃ w5 : World, w5 = v5.alloc (.cells (rtCs x) 29) := ⟨_, rfl⟩
    have hbb : FB w4 w5 := by rw [hw]; exact hb.alloc _
    have HF5 := Lib.hid (HF4.out.trans hbb)
    have HP5 := Lib.hid (hbb.kept HP4.out)
    have HX5 := Lib.hid (hbb.kept HX4.out)
    have HR5 := Lib.hid (hbb.rd HR4.out)
    have HO5 := Lib.hid (FB.own hbb HO4.out)
    have HY5 := Lib.hid (show w5.heap[v5.heap.size]? = some (.cells (rtCs x) 29 (0, 0)) from by rw [hw]; exact heap_alloc_new v5 _)
    have HW := Lib.hid (show v5.alloc (.cells #[.int .u64 (nb x.E), .int .u64 (nb x.P), .int .u64 (nb x.T), .int .u64 (nb x.S), .int .u64 (nb x.L), .int .u64 (nb x.a), .int .u64 (nb x.b), .int .u64 (nb x.c), .int .u64 (nb x.d)] 29) = w5 from hw.symm)
    clear hb hbb hw HC2 HF4 HP4 HQ4 HR4 HO4 HX4 qa qb
    go_upto_region 9 with fail
    rw [HW.out]
    clear HW
    generalize v5.heap.size = gy at *
    have hse : ((sb ys).toList == (sb ys).toList) = true := by simp
    have hee : (ey != ey) = false := by simp
    have hoo : (ok != ok) = false := by simp
    have hq : ∀ w, (binOp .neq 29 (.agg #[.int .u64 (nb x.E), .int .u64 (nb x.P), .int .u64 (nb x.T), .int .u64 (nb x.S), .int .u64 (nb x.L), .int .u64 (nb x.a), .int .u64 (nb x.b), .int .u64 (nb x.c), .int .u64 (nb x.d)]) (.agg #[.int .u64 (nb x.E), .int .u64 (nb x.P), .int .u64 (nb x.T), .int .u64 (nb x.S), .int .u64 (nb x.L), .int .u64 (nb x.a), .int .u64 (nb x.b), .int .u64 (nb x.c), .int .u64 (nb x.d)])).run Try.prog w = .ok (.bool false) w := fun w => by have h := rt_neq x x w; rw [rtEq_self] at h; exact h
    have hqg : ∀ op x y xs ys w, (eqGuard op 29 x y (.agg xs) (.agg ys)).run Try.prog w = .ok () w := fun op x y xs ys w => rt_eqGuard op x y xs ys w
    have hk1 := rt_Check r
    have hk2 := r6_Check r
    have hk3 := rt_Slot r
    have hk4 := r6_Slot r
    generalize rtChk r = kc at *
    generalize rtSlot r = ks at *
    unfold rtV rtCs at hk1 hk2 hk3 hk4
    have HK1 := Lib.hid hk1
    have HK2 := Lib.hid hk2
    have HK3 := Lib.hid hk3
    have HK4 := Lib.hid hk4
    clear hk1 hk2 hk3 hk4
    have hkk : (kc != kc) = false := by simp
    have hss : (((ks : Nat) : Int) != ((ks : Nat) : Int)) = false := by simp
    obtain ⟨W0, hW0⟩ : ∃ W0 : World, W0 = w5 := ⟨_, rfl⟩
    rw [← hW0]
    refine region_sch (E := FB) ((0, true) :: (1, true) :: (2, true) :: (3, true) :: (4, true) :: (5, true) :: (6, true) :: (7, true) :: (8, true) :: (9, true) :: (10, true) :: (11, true) :: (12, true) :: (13, true) :: (14, true) :: (15, true) :: (16, true) :: (17, true) :: (18, true) :: (19, true) :: (20, true) :: (21, true) :: (23, true) :: (22, false) :: (24, false) :: (25, true) :: (26, true) :: (27, true) :: (28, true) :: (30, true) :: (29, false) :: (31, false) :: (32, true) :: (33, true) :: []) (by kernel_rfl) FB.refl fb_trans (fun _ _ d _ _ h => by cases d <;> exact h) (by kernel_rfl) ?_
    intro ops hops0
    have hops := Lib.hid hops0
    clear hops0
    have HF : FB W0 W0.drew := (FB.refl _).drew
    generalize W0.drew = wF at *
    have HFq := Lib.hid (show FB w5 wF from by rw [← hW0]; exact HF)
    clear hW0 HF
    have KP := Lib.hid (HFq.out.kept HP5.out)
    have KX := Lib.hid (HFq.out.kept HX5.out)
    have KY := Lib.hid (HFq.out.kept HY5.out)
    have HSA := Lib.hid (fun W (h : FB wF W) => run_string c11 ((HFq.out.trans h).rd HR5.out))
    have HSB := Lib.hid (fun W (h : FB wF W) => run_string c13 ((HFq.out.trans h).rd (Own.info HO5.out).2.2.1))
    have HF := FB.refl wF
    repeat (refine sch_take (o := ?_) (v := ?_) (a' := ?_) (at_of hops.out ?_) ?_ (fun W hW => ?_) ?_ ?_; rotate_left 3; (focus (simp only [List.getElem?_toArray, List.getElem?_cons_zero, List.getElem?_cons_succ]; rfl)); (focus (rw [hops.out]; rfl)); (focus (have u1 := prow9 (hW.kept KP.out); have u2 := prow9 (hW.kept KX.out); have u3 := prow9 (hW.kept KY.out); have u7 := HSA.out W hW; have u8 := HSB.out W hW; go_simp; with_reducible rfl)); (focus (simp only [Act.put, List.setIfInBounds_toArray, List.set_cons_zero, List.set_cons_succ]; rfl)))
    (refine sch_call (o := ?_) (f := ?_) (args := ?_) (at_of hops.out ?_) ?_ ?_ ?_; rotate_left 3; (focus (simp only [List.getElem?_toArray, List.getElem?_cons_zero, List.getElem?_cons_succ]; rfl)); (focus (rw [hops.out]; rfl)); (focus (go_simp; constructor <;> with_reducible rfl)); (first | ((with_reducible refine (HK1.out _).mono ?_); rintro e wa ⟨rfl, hb⟩; refine ⟨_, rfl, hb, ?_⟩; intro a' ha'; simp only [Act.put, List.setIfInBounds_toArray, List.set_cons_zero, List.set_cons_succ] at ha'; subst ha'; replace HF := HF.call hb; clear hb)))
    repeat (refine sch_take (o := ?_) (v := ?_) (a' := ?_) (at_of hops.out ?_) ?_ (fun W hW => ?_) ?_ ?_; rotate_left 3; (focus (simp only [List.getElem?_toArray, List.getElem?_cons_zero, List.getElem?_cons_succ]; rfl)); (focus (rw [hops.out]; rfl)); (focus (go_simp; with_reducible rfl)); (focus (simp only [Act.put, List.setIfInBounds_toArray, List.set_cons_zero, List.set_cons_succ]; rfl)))
    (refine sch_call (o := ?_) (f := ?_) (args := ?_) (at_of hops.out ?_) ?_ ?_ ?_; rotate_left 3; (focus (simp only [List.getElem?_toArray, List.getElem?_cons_zero, List.getElem?_cons_succ]; rfl)); (focus (rw [hops.out]; rfl)); (focus (go_simp; constructor <;> with_reducible rfl)); (first | ((with_reducible refine (HK2.out _).mono ?_); rintro e wb ⟨rfl, hb⟩; refine ⟨_, rfl, hb, ?_⟩; intro a' ha'; simp only [Act.put, List.setIfInBounds_toArray, List.set_cons_zero, List.set_cons_succ] at ha'; subst ha'; replace HF := HF.call hb; clear hb)))
    repeat (refine sch_take (o := ?_) (v := ?_) (a' := ?_) (at_of hops.out ?_) ?_ (fun W hW => ?_) ?_ ?_; rotate_left 3; (focus (simp only [List.getElem?_toArray, List.getElem?_cons_zero, List.getElem?_cons_succ]; rfl)); (focus (rw [hops.out]; rfl)); (focus (have u1 := prow9 (FB.kept (HF.trans hW) KP.out); go_simp; with_reducible rfl)); (focus (simp only [Act.put, List.setIfInBounds_toArray, List.set_cons_zero, List.set_cons_succ]; rfl)))
    (refine sch_call (o := ?_) (f := ?_) (args := ?_) (at_of hops.out ?_) ?_ ?_ ?_; rotate_left 3; (focus (simp only [List.getElem?_toArray, List.getElem?_cons_zero, List.getElem?_cons_succ]; rfl)); (focus (rw [hops.out]; rfl)); (focus (go_simp; constructor <;> with_reducible rfl)); (first | ((with_reducible refine (HK3.out _).mono ?_); rintro e wc ⟨rfl, hb⟩; refine ⟨_, rfl, hb, ?_⟩; intro a' ha'; simp only [Act.put, List.setIfInBounds_toArray, List.set_cons_zero, List.set_cons_succ] at ha'; subst ha'; replace HF := HF.call hb; clear hb)))
    repeat (refine sch_take (o := ?_) (v := ?_) (a' := ?_) (at_of hops.out ?_) ?_ (fun W hW => ?_) ?_ ?_; rotate_left 3; (focus (simp only [List.getElem?_toArray, List.getElem?_cons_zero, List.getElem?_cons_succ]; rfl)); (focus (rw [hops.out]; rfl)); (focus (go_simp; with_reducible rfl)); (focus (simp only [Act.put, List.setIfInBounds_toArray, List.set_cons_zero, List.set_cons_succ]; rfl)))
    (refine sch_call (o := ?_) (f := ?_) (args := ?_) (at_of hops.out ?_) ?_ ?_ ?_; rotate_left 3; (focus (simp only [List.getElem?_toArray, List.getElem?_cons_zero, List.getElem?_cons_succ]; rfl)); (focus (rw [hops.out]; rfl)); (focus (go_simp; constructor <;> with_reducible rfl)); (first | ((with_reducible refine (HK4.out _).mono ?_); rintro e wt ⟨rfl, hb⟩; refine ⟨_, rfl, hb, ?_⟩; intro a' ha'; simp only [Act.put, List.setIfInBounds_toArray, List.set_cons_zero, List.set_cons_succ] at ha'; subst ha'; replace HF := HF.call hb; clear hb)))
    repeat (refine sch_take (o := ?_) (v := ?_) (a' := ?_) (at_of hops.out ?_) ?_ (fun W hW => ?_) ?_ ?_; rotate_left 3; (focus (simp only [List.getElem?_toArray, List.getElem?_cons_zero, List.getElem?_cons_succ]; rfl)); (focus (rw [hops.out]; rfl)); (focus (go_simp; with_reducible rfl)); (focus (simp only [Act.put, List.setIfInBounds_toArray, List.set_cons_zero, List.set_cons_succ]; rfl)))
    refine sch_done ?_
    have HFT := Lib.hid ((HF5.out.trans HFq.out).trans HF)
    have HO := Lib.hid (FB.own (HFq.out.trans HF) HO5.out)
    clear hops HF KP KX KY HSA HSB HK1 HK2 HK3 HK4 HF5 HP5 HX5 HY5 HR5 HO5 HFq hse hee hoo hkk hss hq hqg
    rcases HYY.out with ⟨rfl, hyl, -⟩ | ⟨rfl, rfl, -⟩
    · rw [hyl]
      have HYL := Lib.hid hyl
      have ho := HO.out
      rw [HYL.out] at ho
      obtain ⟨g13, rfl, hg1, -⟩ := OwnV.head0 ho (by rw [vbs_length, HYL.out]; omega)
      have HOY := Lib.hid ho
      have HG1 := Lib.hid hg1
      obtain ⟨j, hj, hjl⟩ : ∃ j : Nat, pick at_ 4096 = (j : Int) ∧ j < 4096 := by
        have := pick_range at_ 4096 (by omega)
        exact ⟨(pick at_ 4096).toNat, by omega, by omega⟩
      have hjz : (j : Int) < 4096 := by omega
      have hpk := kit_Pick at_ 4096 wt (by omega) (by omega)
      rw [hj] at hpk
      have HCP := Lib.hid hpk
      have hji : j < ys.length := by rw [HYL.out]; exact hjl
      obtain ⟨s0, sf, sset⟩ := OwnV.cellset HOY.out (j := j) (by rw [vbs_length]; exact hji)
      rw [vbs_get ys j hji] at s0
      unfold vb at s0
      obtain ⟨yj, hyj⟩ : ∃ yj, yj = ys[j] := ⟨_, rfl⟩
      rw [← hyj] at s0
      have hxo := bits_xor8 yj by_
      obtain ⟨zs, hzs⟩ : ∃ zs, zs = ys.set j (ys[j] ^^^ by_) := ⟨_, rfl⟩
      have HZL := Lib.hid (show zs.length = 4096 from by rw [hzs, List.length_set, HYL.out])
      have HOZ := Lib.hid (show Own (wt.setCell ⟨g13, j, none⟩ (.int .u8 (nb (yj ^^^ by_)))) _ (.slice (some ⟨g13, 0, none⟩) 4096 c13) zs from by
        have q := sset (vb (yj ^^^ by_))
        unfold Own
        rw [hzs, show vbs (ys.set j (ys[j] ^^^ by_)) = (vbs ys).set j (vb (yj ^^^ by_)) from by unfold vbs; rw [List.map_set, hyj]]
        exact q)
      have HF6 := Lib.hid (HFT.out.set (p := ⟨g13, j, none⟩) (by have := HG13.out; have := HG1.out; simp; omega) (.int .u8 (nb (yj ^^^ by_))))
      clear hpk sset hzs hyj hj hjl hji ho hg1 hyl HO HOY
      go_wp2_with fail
      refine HCP.out.mono ?_
      rintro e w8 ⟨rfl, rfl⟩
      go_upto_region 13 with fail
      generalize wt.setCell ⟨g13, j, none⟩ (.int .u8 (nb (yj ^^^ by_))) = wt at *
      have HFT := HF6
      have HRZ := Lib.hid (Own.info HOZ.out).2.2.1
      have HZC := Lib.hid (show zs.length ≤ c13 ∧ c13 ≤ maxLen from ⟨(Own.info HOZ.out).1, (Own.info HOZ.out).2.1⟩)
      have HZ5 := Lib.hid (show zs.length ≤ 5000 from by rw [HZL.out]; omega)
      rw [← HZL.out]
      clear s0 sf hxo hjz HF6 HOZ HYL HCP
      generalize (some (⟨g13, 0, none⟩ : Addr)) = A13 at *
      go_wp2_with fail
      have HTF := Lib.hid (HFT.out.alloc (.cells #[.slice C b.length c3, .slice A13 zs.length c13] 22))
      have hg := heap_alloc_new wt (.cells #[.slice C b.length c3, .slice A13 zs.length c13] 22)
      have HEL := Lib.hid (show ∀ k : Nat, k < 2 → ∃ A' c' v, (wt.alloc (.cells #[.slice C b.length c3, .slice A13 zs.length c13] 22)).cell? ⟨wt.heap.size, k, none⟩ = some (.slice A' (v : List Byte).length c') ∧ v.length ≤ c' ∧ c' ≤ maxLen ∧ Rd (wt.alloc (.cells #[.slice C b.length c3, .slice A13 zs.length c13] 22)) A' v ∧ v.length ≤ 5000 from by
        intro k hk
        match k, hk with
        | 0, _ => exact ⟨C, c3, b, by rw [cell_of_row _ _ _ _ _ _ hg]; rfl, HCB.out.1, HCB.out.2, HTF.out.rd HRB.out, HLB.out⟩
        | 1, _ => exact ⟨A13, c13, zs, by rw [cell_of_row _ _ _ _ _ _ hg]; rfl, HZC.out.1, HZC.out.2, ((FB.refl wt).alloc _).rd HRZ.out, HZ5.out⟩)
      clear hg
      generalize wt.alloc _ = W at *
      generalize wt.heap.size = g at *
      go_loopw [110] (fun i wr => ∃ k : Nat, k ≤ 2 ∧ i = .int .i64 k ∧ Hid (FB W wr)) (fun i _ => 2 - (intOf i).toNat)
      case atStart => exact ⟨0, by omega, rfl, Lib.hid (FB.refl _)⟩
      case round =>
        obtain ⟨k, hk, rfl, HW⟩ := hrel
        by_cases hlt : k < 2
        · obtain ⟨A', c', v, hcell, hc', hm', hrd, hl5⟩ := HEL.out k hlt
          have hcr := HW.out.cell hcell
          have hz : (k : Int) < 2 := by omega
          have HK := Lib.hid hlt
          have hwk : IntKind.i64.wrap ((k : Int) + 1) = (k : Int) + 1 := by rw [IntKind.wrap_i64]; omega
          have HL := Lib.hid (show v.length ≤ 1000000000 from by omega)
          have HCV := Lib.hid (And.intro hc' hm')
          have HRV := Lib.hid (HW.out.rd hrd)
          have HC := Lib.hid (kit_Own v A' c' wr hc' (by omega) HRV.out)
          clear hcell hc' hm' hrd hl5 hlt hk
          go_wp2_with fail
          clear hcr
          refine HC.out.mono ?_
          rintro e wo ⟨Ao, co, rfl, ho, hb⟩
          have hi := Own.info ho
          have HF1 := Lib.hid (show FB wr wo from hb)
          have hc1 := rt_Read v Ao co wo HL.out hi.1 hi.2.1 hi.2.2.1
          have hc2 := fun (W : World) (h : FB wr W) => r6_Read v A' c' W HL.out HCV.out.1 HCV.out.2 (h.rd HRV.out)
          generalize rtR v = rr at *
          obtain ⟨s, er⟩ := rr
          unfold rtV rtCs at hc1
          have HC1 := Lib.hid hc1
          unfold rtV rtCs at hc2
          have HC2 := Lib.hid hc2
          clear ho hb hi HC hc1 hc2
          go_wp2_with fail
          refine HC1.out.mono ?_
          rintro e wp ⟨rfl, hb⟩
          obtain ⟨wq, hwq⟩ : ∃ wq : World, wq = wp.alloc (.cells (rtCs s) 29) := ⟨_, rfl⟩
          have HF2 := Lib.hid (show FB wr wq from by rw [hwq]; exact HF1.out.trans (hb.alloc _))
          have HB5 := Lib.hid (show wq.heap[wp.heap.size]? = some (.cells (rtCs s) 29 (0, 0)) from by rw [hwq]; exact heap_alloc_new wp _)
          have HWQ := Lib.hid (show wp.alloc (.cells #[.int .u64 (nb s.E), .int .u64 (nb s.P), .int .u64 (nb s.T), .int .u64 (nb s.S), .int .u64 (nb s.L), .int .u64 (nb s.a), .int .u64 (nb s.b), .int .u64 (nb s.c), .int .u64 (nb s.d)] 29) = wq from hwq.symm)
          clear hb hwq HC1 HF1
          go_upto_region 17 with fail
          rw [HWQ.out]
          clear HWQ
          generalize wp.heap.size = g5 at *
          go_wp2_with fail
          refine (HC2.out _ HF2.out).mono ?_
          rintro e wu ⟨rfl, hb⟩
          obtain ⟨wv, hwv⟩ : ∃ wv : World, wv = wu.alloc (.cells (rtCs s) 29) := ⟨_, rfl⟩
          have HF3 := Lib.hid (show FB wr wv from by rw [hwv]; exact HF2.out.trans (hb.alloc _))
          have HB53 := Lib.hid (show wv.heap[g5]? = some (.cells (rtCs s) 29 (0, 0)) from by rw [hwv]; exact ((hb.alloc _).block _ (Array.getElem?_eq_some_iff.1 HB5.out).1).trans HB5.out)
          have HB6 := Lib.hid (show wv.heap[wu.heap.size]? = some (.cells (rtCs s) 29 (0, 0)) from by rw [hwv]; exact heap_alloc_new wu _)
          have HWQ := Lib.hid (show wu.alloc (.cells #[.int .u64 (nb s.E), .int .u64 (nb s.P), .int .u64 (nb s.T), .int .u64 (nb s.S), .int .u64 (nb s.L), .int .u64 (nb s.a), .int .u64 (nb s.b), .int .u64 (nb s.c), .int .u64 (nb s.d)] 29) = wv from hwv.symm)
          clear hb hwv HC2 HF2 HB5
          go_upto_region 18 with fail
          rw [HWQ.out]
          clear HWQ
          generalize wu.heap.size = g6 at *
          have qa := prow9 HB53.out
          have qb := prow9 HB6.out
          have hq : ∀ w, (binOp .neq 29 (.agg #[.int .u64 (nb s.E), .int .u64 (nb s.P), .int .u64 (nb s.T), .int .u64 (nb s.S), .int .u64 (nb s.L), .int .u64 (nb s.a), .int .u64 (nb s.b), .int .u64 (nb s.c), .int .u64 (nb s.d)]) (.agg #[.int .u64 (nb s.E), .int .u64 (nb s.P), .int .u64 (nb s.T), .int .u64 (nb s.S), .int .u64 (nb s.L), .int .u64 (nb s.a), .int .u64 (nb s.b), .int .u64 (nb s.c), .int .u64 (nb s.d)])).run Try.prog w = .ok (.bool false) w := fun w => by have h := rt_neq s s w; rw [rtEq_self] at h; exact h
          have hqg : ∀ op x y xs ys w, (eqGuard op 29 x y (.agg xs) (.agg ys)).run Try.prog w = .ok () w := fun op x y xs ys w => rt_eqGuard op x y xs ys w
          have HF4 := Lib.hid (HW.out.trans HF3.out)
          have hee : (er != er) = false := by simp
          clear HF3 HB53 HB6
          go_upto_region 20 with fail
          clear qa qb hq hqg hee
          go_wp2_with fail
          go_roundw
          case rel => exact ⟨k + 1, by have := HK.out; omega, by go_num, HF4.out⟩
          case measure => (show 2 - ((k : Int) + 1).toNat < 2 - ((k : Int)).toNat; have := HK.out; omega)
        · have hz : ¬ (k : Int) < 2 := by omega
          go_wp2
          go_ret
          exact ⟨rfl, HTF.out.trans HW.out⟩
    · have HRZ := Lib.hid (Own.info HO.out).2.2.1
      have HZC := Lib.hid (show ([] : List Byte).length ≤ c13 ∧ c13 ≤ maxLen from ⟨(Own.info HO.out).1, (Own.info HO.out).2.1⟩)
      have HZ5 := Lib.hid (show ([] : List Byte).length ≤ 5000 from by simp)
      clear HO
      go_upto_region 13 with fail
      generalize hzs : ([] : List Byte) = zs at *
      clear hzs
      go_wp2_with fail
      have HTF := Lib.hid (HFT.out.alloc (.cells #[.slice C b.length c3, .slice A13 zs.length c13] 22))
      have hg := heap_alloc_new wt (.cells #[.slice C b.length c3, .slice A13 zs.length c13] 22)
      have HEL := Lib.hid (show ∀ k : Nat, k < 2 → ∃ A' c' v, (wt.alloc (.cells #[.slice C b.length c3, .slice A13 zs.length c13] 22)).cell? ⟨wt.heap.size, k, none⟩ = some (.slice A' (v : List Byte).length c') ∧ v.length ≤ c' ∧ c' ≤ maxLen ∧ Rd (wt.alloc (.cells #[.slice C b.length c3, .slice A13 zs.length c13] 22)) A' v ∧ v.length ≤ 5000 from by
        intro k hk
        match k, hk with
        | 0, _ => exact ⟨C, c3, b, by rw [cell_of_row _ _ _ _ _ _ hg]; rfl, HCB.out.1, HCB.out.2, HTF.out.rd HRB.out, HLB.out⟩
        | 1, _ => exact ⟨A13, c13, zs, by rw [cell_of_row _ _ _ _ _ _ hg]; rfl, HZC.out.1, HZC.out.2, ((FB.refl wt).alloc _).rd HRZ.out, HZ5.out⟩)
      clear hg
      generalize wt.alloc _ = W at *
      generalize wt.heap.size = g at *
      go_loopw [110] (fun i wr => ∃ k : Nat, k ≤ 2 ∧ i = .int .i64 k ∧ Hid (FB W wr)) (fun i _ => 2 - (intOf i).toNat)
      case atStart => exact ⟨0, by omega, rfl, Lib.hid (FB.refl _)⟩
      case round =>
        obtain ⟨k, hk, rfl, HW⟩ := hrel
        by_cases hlt : k < 2
        · obtain ⟨A', c', v, hcell, hc', hm', hrd, hl5⟩ := HEL.out k hlt
          have hcr := HW.out.cell hcell
          have hz : (k : Int) < 2 := by omega
          have HK := Lib.hid hlt
          have hwk : IntKind.i64.wrap ((k : Int) + 1) = (k : Int) + 1 := by rw [IntKind.wrap_i64]; omega
          have HL := Lib.hid (show v.length ≤ 1000000000 from by omega)
          have HCV := Lib.hid (And.intro hc' hm')
          have HRV := Lib.hid (HW.out.rd hrd)
          have HC := Lib.hid (kit_Own v A' c' wr hc' (by omega) HRV.out)
          clear hcell hc' hm' hrd hl5 hlt hk
          go_wp2_with fail
          clear hcr
          refine HC.out.mono ?_
          rintro e wo ⟨Ao, co, rfl, ho, hb⟩
          have hi := Own.info ho
          have HF1 := Lib.hid (show FB wr wo from hb)
          have hc1 := rt_Read v Ao co wo HL.out hi.1 hi.2.1 hi.2.2.1
          have hc2 := fun (W : World) (h : FB wr W) => r6_Read v A' c' W HL.out HCV.out.1 HCV.out.2 (h.rd HRV.out)
          generalize rtR v = rr at *
          obtain ⟨s, er⟩ := rr
          unfold rtV rtCs at hc1
          have HC1 := Lib.hid hc1
          unfold rtV rtCs at hc2
          have HC2 := Lib.hid hc2
          clear ho hb hi HC hc1 hc2
          go_wp2_with fail
          refine HC1.out.mono ?_
          rintro e wp ⟨rfl, hb⟩
          obtain ⟨wq, hwq⟩ : ∃ wq : World, wq = wp.alloc (.cells (rtCs s) 29) := ⟨_, rfl⟩
          have HF2 := Lib.hid (show FB wr wq from by rw [hwq]; exact HF1.out.trans (hb.alloc _))
          have HB5 := Lib.hid (show wq.heap[wp.heap.size]? = some (.cells (rtCs s) 29 (0, 0)) from by rw [hwq]; exact heap_alloc_new wp _)
          have HWQ := Lib.hid (show wp.alloc (.cells #[.int .u64 (nb s.E), .int .u64 (nb s.P), .int .u64 (nb s.T), .int .u64 (nb s.S), .int .u64 (nb s.L), .int .u64 (nb s.a), .int .u64 (nb s.b), .int .u64 (nb s.c), .int .u64 (nb s.d)] 29) = wq from hwq.symm)
          clear hb hwq HC1 HF1
          go_upto_region 17 with fail
          rw [HWQ.out]
          clear HWQ
          generalize wp.heap.size = g5 at *
          go_wp2_with fail
          refine (HC2.out _ HF2.out).mono ?_
          rintro e wu ⟨rfl, hb⟩
          obtain ⟨wv, hwv⟩ : ∃ wv : World, wv = wu.alloc (.cells (rtCs s) 29) := ⟨_, rfl⟩
          have HF3 := Lib.hid (show FB wr wv from by rw [hwv]; exact HF2.out.trans (hb.alloc _))
          have HB53 := Lib.hid (show wv.heap[g5]? = some (.cells (rtCs s) 29 (0, 0)) from by rw [hwv]; exact ((hb.alloc _).block _ (Array.getElem?_eq_some_iff.1 HB5.out).1).trans HB5.out)
          have HB6 := Lib.hid (show wv.heap[wu.heap.size]? = some (.cells (rtCs s) 29 (0, 0)) from by rw [hwv]; exact heap_alloc_new wu _)
          have HWQ := Lib.hid (show wu.alloc (.cells #[.int .u64 (nb s.E), .int .u64 (nb s.P), .int .u64 (nb s.T), .int .u64 (nb s.S), .int .u64 (nb s.L), .int .u64 (nb s.a), .int .u64 (nb s.b), .int .u64 (nb s.c), .int .u64 (nb s.d)] 29) = wv from hwv.symm)
          clear hb hwv HC2 HF2 HB5
          go_upto_region 18 with fail
          rw [HWQ.out]
          clear HWQ
          generalize wu.heap.size = g6 at *
          have qa := prow9 HB53.out
          have qb := prow9 HB6.out
          have hq : ∀ w, (binOp .neq 29 (.agg #[.int .u64 (nb s.E), .int .u64 (nb s.P), .int .u64 (nb s.T), .int .u64 (nb s.S), .int .u64 (nb s.L), .int .u64 (nb s.a), .int .u64 (nb s.b), .int .u64 (nb s.c), .int .u64 (nb s.d)]) (.agg #[.int .u64 (nb s.E), .int .u64 (nb s.P), .int .u64 (nb s.T), .int .u64 (nb s.S), .int .u64 (nb s.L), .int .u64 (nb s.a), .int .u64 (nb s.b), .int .u64 (nb s.c), .int .u64 (nb s.d)])).run Try.prog w = .ok (.bool false) w := fun w => by have h := rt_neq s s w; rw [rtEq_self] at h; exact h
          have hqg : ∀ op x y xs ys w, (eqGuard op 29 x y (.agg xs) (.agg ys)).run Try.prog w = .ok () w := fun op x y xs ys w => rt_eqGuard op x y xs ys w
          have HF4 := Lib.hid (HW.out.trans HF3.out)
          have hee : (er != er) = false := by simp
          clear HF3 HB53 HB6
          go_upto_region 20 with fail
          clear qa qb hq hqg hee
          go_wp2_with fail
          go_roundw
          case rel => exact ⟨k + 1, by have := HK.out; omega, by go_num, HF4.out⟩
          case measure => (show 2 - ((k : Int) + 1).toNat < 2 - ((k : Int)).toNat; have := HK.out; omega)
        · have hz : ¬ (k : Int) < 2 := by omega
          go_wp2
          go_ret
          exact ⟨rfl, HTF.out.trans HW.out⟩
end Go.Proofs.Ytihljjfnjclefaa
