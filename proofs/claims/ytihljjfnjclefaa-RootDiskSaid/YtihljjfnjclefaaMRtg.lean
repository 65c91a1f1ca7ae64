/- Walks and laws that the claim's last text stands on, several texts in one file: RtD, Mp, Dsk, DskA. Under the hypotheses that each theorem states. -/
import Derived.MapKept
import Derived.ChangeMaps4
import Derived.WalkSpells
import Derived.Test.YtihljjfnjclefaaMRta
import Derived.Test.YtihljjfnjclefaaMRtb
import Derived.Test.YtihljjfnjclefaaMRtc
import Derived.Test.YtihljjfnjclefaaMRtd
import Derived.Test.YtihljjfnjclefaaMRte
import Derived.Test.YtihljjfnjclefaaMRtf
/- root: the walk through Read. -/
set_option linter.unusedVariables false
set_option linter.unusedSimpArgs false
namespace Go.Proofs.Ytihljjfnjclefaa
open Go.ChangeShapes Go.WideShapes Go.ChangeAt Go.RowKit
attribute [local go_sem] nb_nonneg nb_lt8 nb_lt64
set_option maxRecDepth 100000

/-- What a root is while its last four words are read. -/
def rtPart (x : List Byte) : Nat → Rt
  | 0 => ⟨rw8 x 0, rw8 x 1, rw8 x 2, rw8 x 3, rw8 x 4, 0#64, 0#64, 0#64, 0#64⟩
  | 1 => ⟨rw8 x 0, rw8 x 1, rw8 x 2, rw8 x 3, rw8 x 4, rw8 x 5, 0#64, 0#64, 0#64⟩
  | 2 => ⟨rw8 x 0, rw8 x 1, rw8 x 2, rw8 x 3, rw8 x 4, rw8 x 5, rw8 x 6, 0#64, 0#64⟩
  | 3 => ⟨rw8 x 0, rw8 x 1, rw8 x 2, rw8 x 3, rw8 x 4, rw8 x 5, rw8 x 6, rw8 x 7, 0#64⟩
  | _ => rtOf x
/-- The result's block is as it was made; what was before the call is as it was. -/
structure RdSt (w W : World) (N : Nat) : Prop where
  fb : FB w W
  row : W.heap[N]? = some (.cells (rtCs rt0) 29 (0, 0))
  le : w.heap.size ≤ N
theorem RdSt.lt {w W : World} {N : Nat} (h : RdSt w W N) : N < W.heap.size := (Array.getElem?_eq_some_iff.1 h.row).1
theorem RdSt.fbn {w W W' : World} {N : Nat} (h : RdSt w W N) (k : FB W W') : RdSt w W' N := ⟨h.fb.trans k, (k.block _ h.lt).trans h.row, h.le⟩
theorem RdSt.tb {w W W' : World} {N g : Nat} (h : RdSt w W N) (k : TB g W W') (hg : N < g) : RdSt w W' N :=
  ⟨h.fb.ts (TS.tb (F := [g]) k (by simp)) (fun y hy => by simp at hy; have := h.le; omega), (k.out.block _ h.lt (fun e => by cases e; omega)).trans h.row, h.le⟩
theorem pgR_zero {b : List Byte} (h : (pgR b).2 = 0) : (pgR b).1.2.2.length = 4080 := by
  have e : pgR b = ((pgR b).1, 0) := Prod.ext rfl h
  have hl := (pgR_ok e).2
  unfold pgR at h ⊢
  split
  · rename_i hc; simp; omega
  · rename_i hc; rw [if_neg hc] at h; simp at h
theorem rtR_far {b : List Byte} (h : (pgR b).2 ≠ 0 ∨ (pgR b).1.1 ≠ 1) : rtR b = (rt0, 4) := by
  unfold rtR
  rw [if_neg (by rintro ⟨h1, h2, -⟩; rcases h with h | h <;> contradiction)]
theorem rw_step {base g : Nat} {x : List Byte} {W : World} (j : Nat) (h : Rdr W base g x (8 * j) 0) (hn : 8 * j + 8 ≤ x.length) (hl : x.length ≤ 5000) :
    Calls Try.prog 41 #[.pointer (some ⟨g, 0, none⟩), .int .i64 8] W fun e w' => e = .returned (.int .u64 (nb (rw8 x j))) ∧ Rdr w' base g x (8 * (j + 1)) 0 ∧ TB g W w' := by
  have q := oct_RWord_ok h 8 (by omega) hn (by omega)
  exact q.mono (fun e w' k => ⟨k.1, k.2.1, k.2.2⟩)
set_option maxHeartbeats 8000000 in
theorem rt_Read (b : List Byte) (A : Option Addr) (c : Nat) (w : World) (hl : b.length ≤ 1000000000) (hc : b.length ≤ c) (hm : c ≤ maxLen) (hr : Rd w A b) :
    Calls Try.prog 10 #[.slice A b.length c] w fun e w' => e = .returned (.tuple #[rtV (rtR b).1, .int .i64 (rtR b).2]) ∧ FB w w' := by
  obtain ⟨W1, hW1⟩ : ∃ W1 : World, W1 = w.alloc (.cells (rtCs rt0) 29) := ⟨_, rfl⟩
  have HS := Lib.hid (show RdSt w W1 w.heap.size from by rw [hW1]; exact ⟨(FB.refl w).alloc _, heap_alloc_new w _, Nat.le_refl _⟩)
  have HW1 := Lib.hid hW1
  have HC1 := Lib.hid (pg_Read b A c W1 hl hc hm (HS.out.fb.rd hr))
  obtain ⟨R, hR⟩ : ∃ R, R = rtR b := ⟨_, rfl⟩
  rw [← hR]
  have HFAR := Lib.hid (fun h => hR.trans (@rtR_far b h))
  have HZ := Lib.hid (@pgR_zero b)
  unfold rtR at hR
  generalize pgR b = p at *
  obtain ⟨⟨K, n, x⟩, er⟩ := p
  simp only at hR
  have HR := Lib.hid hR
  have HRB := Lib.hid hr
  clear hW1 hR hl hc hm hr
  have hrs : ∀ W, FB w W → (convert 22 9 (.slice A b.length c)).run Try.prog W = .ok (.string (sb b)) W := fun W h => run_string c (h.rd HRB.out)
  have HSB := Lib.hid hrs
  clear hrs
  go_enter Try.func10, Try.ntmps10
  go_upto_region 1 with fail
  rw [← rt0_cs, ← HW1.out]
  clear HW1
  go_wp2_with fail
  refine HC1.out.mono ?_
  rintro e w1 ⟨A1, c1, rfl, hrx, hx1, hxm, hb⟩
  simp only at hrx hx1
  have HRX := Lib.hid hrx
  have HX := Lib.hid (And.intro hx1 hxm)
  have HS1 := Lib.hid (HS.out.fbn hb)
  clear hrx hx1 hxm hb HS HC1
  obtain ⟨W2, hW2⟩ : ∃ W2 : World, W2 = w1.alloc (.cells #[.int .i64 K, .int .u32 (nb n), .slice A1 x.length c1] 71) := ⟨_, rfl⟩
  have HS2 := Lib.hid (show RdSt w W2 w.heap.size from by rw [hW2]; exact HS1.out.fbn ((FB.refl _).alloc _))
  have HRX2 := Lib.hid (show Rd W2 A1 x from by rw [hW2]; exact HRX.out.alloc _)
  obtain ⟨p0, p1, p2⟩ := prow3 (heap_alloc_new w1 (.cells #[.int .i64 K, .int .u32 (nb n), .slice A1 x.length c1] 71))
  rw [← hW2] at p0 p1 p2
  have HW2 := Lib.hid hW2
  clear hW2 HS1 HRX
  have hs0 := rt_store rt0 rt0 HS2.out.row
  unfold rtV at hs0
  rw [rt0_cs] at hs0
  have HE0 := Lib.hid (show FB w (W2.setRow w.heap.size (rtCs rt0)) ∧ (W2.setRow w.heap.size (rtCs rt0)).heap[w.heap.size]? = some (.cells (rtCs rt0) 29 (0, 0)) from ⟨HS2.out.fb.setRow (Nat.le_refl _) _, setRow_heap _ _ _ (rtCs rt0) _ _ HS2.out.row⟩)
  by_cases her : er = 0
  · subst her
    by_cases hK : K = 1
    · subst hK
      have HXL := Lib.hid (show x.length = 4080 from HZ.out rfl)
      clear hs0 HE0 HFAR HZ
      go_upto_region 4 with fail
      rw [← HW2.out]
      clear HW2
      have hnw := oct_New x A1 4080 c1 W2 HXL.out.symm (by rw [HXL.out]; omega) HRX2.out
      have HNW := Lib.hid hnw
      rw [HXL.out] at p2
      clear hnw
      go_wp2_with fail
      refine HNW.out.mono ?_
      rintro e w3 ⟨g, rfl, hrd, hb⟩
      have HS3 := Lib.hid (HS2.out.fbn hb)
      have HD3 := Lib.hid hrd
      have HNG := Lib.hid (show w.heap.size < g from Nat.lt_of_lt_of_le HS2.out.lt hrd.bg)
      clear hrd hb HNW HS2 HRX2 p0 p1 p2
      have hcw := rw_step 0 HD3.out (by rw [HXL.out]; omega) (by rw [HXL.out]; omega)
      have HC := Lib.hid hcw
      clear hcw
      go_wp2_with fail
      refine HC.out.mono ?_
      rintro e w4 ⟨rfl, hrd, hb⟩
      have HS4 := Lib.hid (HS3.out.tb hb HNG.out)
      have HD4 := Lib.hid hrd
      clear hrd hb HC HS3 HD3
      have hcw := rw_step 1 HD4.out (by rw [HXL.out]; omega) (by rw [HXL.out]; omega)
      have HC := Lib.hid hcw
      clear hcw
      go_wp2_with fail
      refine HC.out.mono ?_
      rintro e w5 ⟨rfl, hrd, hb⟩
      have HS5 := Lib.hid (HS4.out.tb hb HNG.out)
      have HD5 := Lib.hid hrd
      clear hrd hb HC HS4 HD4
      have hcw := rw_step 2 HD5.out (by rw [HXL.out]; omega) (by rw [HXL.out]; omega)
      have HC := Lib.hid hcw
      clear hcw
      go_wp2_with fail
      refine HC.out.mono ?_
      rintro e w6 ⟨rfl, hrd, hb⟩
      have HS6 := Lib.hid (HS5.out.tb hb HNG.out)
      have HD6 := Lib.hid hrd
      clear hrd hb HC HS5 HD5
      have hcw := rw_step 3 HD6.out (by rw [HXL.out]; omega) (by rw [HXL.out]; omega)
      have HC := Lib.hid hcw
      clear hcw
      go_wp2_with fail
      refine HC.out.mono ?_
      rintro e w7 ⟨rfl, hrd, hb⟩
      have HS7 := Lib.hid (HS6.out.tb hb HNG.out)
      have HD7 := Lib.hid hrd
      clear hrd hb HC HS6 HD6
      have hcw := rw_step 4 HD7.out (by rw [HXL.out]; omega) (by rw [HXL.out]; omega)
      have HC := Lib.hid hcw
      clear hcw
      go_wp2_with fail
      refine HC.out.mono ?_
      rintro e w8 ⟨rfl, hrd, hb⟩
      have HS8 := Lib.hid (HS7.out.tb hb HNG.out)
      have HD8 := Lib.hid hrd
      clear hrd hb HC HS7 HD7
      obtain ⟨W9, hW9⟩ : ∃ W9 : World, W9 = w8.alloc (.cells (rtCs (rtPart x 0)) 29) := ⟨_, rfl⟩
      have HS9 := Lib.hid (show RdSt w W9 w.heap.size from by rw [hW9]; exact HS8.out.fbn ((FB.refl _).alloc _))
      have HD9 := Lib.hid (show Rdr W9 W2.heap.size g x (8 * 5) 0 from by rw [hW9]; exact HD8.out.fb ((FB.refl _).alloc _))
      have HG9 := Lib.hid (show W9.heap[w8.heap.size]? = some (.cells (rtCs (rtPart x 0)) 29 (0, 0)) from by rw [hW9]; exact heap_alloc_new w8 _)
      have HGG := Lib.hid (show g < w8.heap.size from HD8.out.lt)
      have HW9 := Lib.hid hW9
      clear hW9 HS8 HD8
      go_upto_region 6 with fail
      rw [show w8.alloc (.cells #[.int .u64 (nb (rw8 x 0)), .int .u64 (nb (rw8 x 1)), .int .u64 (nb (rw8 x 2)), .int .u64 (nb (rw8 x 3)), .int .u64 (nb (rw8 x 4)), .int .u64 0, .int .u64 0, .int .u64 0, .int .u64 0] 29) = W9 from HW9.out.symm]
      clear HW9
      go_wp2_with fail
      generalize w8.heap.size = gR at *
      go_loopw [8, 38] (fun _ i wr => ∃ k : Nat, k ≤ 4 ∧ i = .int .i64 k ∧ Hid (Rdr wr W2.heap.size g x (8 * (5 + k)) 0) ∧ Hid (wr.heap[gR]? = some (.cells (rtCs (rtPart x k)) 29 (0, 0))) ∧ Hid (RdSt w wr w.heap.size)) (fun _ i _ => 4 - (intOf i).toNat)
      case atStart => exact ⟨0, by omega, rfl, HD9, HG9, HS9⟩
      case round =>
        obtain ⟨k, hk, rfl, HD, HG, HS⟩ := hrel
        rcases (show k = 0 ∨ k = 1 ∨ k = 2 ∨ k = 3 ∨ k = 4 by omega) with rfl | rfl | rfl | rfl | rfl
        · have hcw := rw_step (5 + 0) HD.out (by rw [HXL.out]; omega) (by rw [HXL.out]; omega)
          have HC := Lib.hid hcw
          clear hcw
          go_wp2_with fail
          refine HC.out.mono ?_
          rintro e wq ⟨rfl, hrd, hb⟩
          have HSq := Lib.hid (HS.out.tb hb HNG.out)
          have HDq := Lib.hid hrd
          have hgq := (hb.out.block _ (Array.getElem?_eq_some_iff.1 HG.out).1 (fun e => by have := HGG.out; simp at e; omega)).trans HG.out
          have HGq := Lib.hid hgq
          have hq := (prow9 hgq).2.2.2.2.2.1
          have hfz := frozen_row _ hgq 5
          clear hrd hb HC hgq
          go_wp2_with fail
          go_round
          case rel =>
            refine ⟨1, by omega, rfl, Lib.hid (HDq.out.tb (TB.set (g := gR) wq 5 _) (.inr HGG.out)), Lib.hid ?_, Lib.hid (HSq.out.tb (TB.set (g := gR) wq 5 _) (by have := HGG.out; have := HNG.out; omega))⟩
            rw [heap_setCell_same wq gR 5 _ _ _ HGq.out]
            rfl
          case measure => simp [intOf]
        · have hcw := rw_step (5 + 1) HD.out (by rw [HXL.out]; omega) (by rw [HXL.out]; omega)
          have HC := Lib.hid hcw
          clear hcw
          go_wp2_with fail
          refine HC.out.mono ?_
          rintro e wq ⟨rfl, hrd, hb⟩
          have HSq := Lib.hid (HS.out.tb hb HNG.out)
          have HDq := Lib.hid hrd
          have hgq := (hb.out.block _ (Array.getElem?_eq_some_iff.1 HG.out).1 (fun e => by have := HGG.out; simp at e; omega)).trans HG.out
          have HGq := Lib.hid hgq
          have hq := (prow9 hgq).2.2.2.2.2.2.1
          have hfz := frozen_row _ hgq 6
          clear hrd hb HC hgq
          go_wp2_with fail
          go_round
          case rel =>
            refine ⟨2, by omega, rfl, Lib.hid (HDq.out.tb (TB.set (g := gR) wq 6 _) (.inr HGG.out)), Lib.hid ?_, Lib.hid (HSq.out.tb (TB.set (g := gR) wq 6 _) (by have := HGG.out; have := HNG.out; omega))⟩
            rw [heap_setCell_same wq gR 6 _ _ _ HGq.out]
            rfl
          case measure => simp [intOf]
        · have hcw := rw_step (5 + 2) HD.out (by rw [HXL.out]; omega) (by rw [HXL.out]; omega)
          have HC := Lib.hid hcw
          clear hcw
          go_wp2_with fail
          refine HC.out.mono ?_
          rintro e wq ⟨rfl, hrd, hb⟩
          have HSq := Lib.hid (HS.out.tb hb HNG.out)
          have HDq := Lib.hid hrd
          have hgq := (hb.out.block _ (Array.getElem?_eq_some_iff.1 HG.out).1 (fun e => by have := HGG.out; simp at e; omega)).trans HG.out
          have HGq := Lib.hid hgq
          have hq := (prow9 hgq).2.2.2.2.2.2.2.1
          have hfz := frozen_row _ hgq 7
          clear hrd hb HC hgq
          go_wp2_with fail
          go_round
          case rel =>
            refine ⟨3, by omega, rfl, Lib.hid (HDq.out.tb (TB.set (g := gR) wq 7 _) (.inr HGG.out)), Lib.hid ?_, Lib.hid (HSq.out.tb (TB.set (g := gR) wq 7 _) (by have := HGG.out; have := HNG.out; omega))⟩
            rw [heap_setCell_same wq gR 7 _ _ _ HGq.out]
            rfl
          case measure => simp [intOf]
        · have hcw := rw_step (5 + 3) HD.out (by rw [HXL.out]; omega) (by rw [HXL.out]; omega)
          have HC := Lib.hid hcw
          clear hcw
          go_wp2_with fail
          refine HC.out.mono ?_
          rintro e wq ⟨rfl, hrd, hb⟩
          have HSq := Lib.hid (HS.out.tb hb HNG.out)
          have HDq := Lib.hid hrd
          have hgq := (hb.out.block _ (Array.getElem?_eq_some_iff.1 HG.out).1 (fun e => by have := HGG.out; simp at e; omega)).trans HG.out
          have HGq := Lib.hid hgq
          have hq := (prow9 hgq).2.2.2.2.2.2.2.2
          have hfz := frozen_row _ hgq 8
          clear hrd hb HC hgq
          go_wp2_with fail
          go_round
          case rel =>
            refine ⟨4, by omega, rfl, Lib.hid (HDq.out.tb (TB.set (g := gR) wq 8 _) (.inr HGG.out)), Lib.hid ?_, Lib.hid (HSq.out.tb (TB.set (g := gR) wq 8 _) (by have := HGG.out; have := HNG.out; omega))⟩
            rw [heap_setCell_same wq gR 8 _ _ _ HGq.out]
            rfl
          case measure => simp [intOf]
        · obtain ⟨s, hs⟩ : ∃ s, s = rtOf x := ⟨_, rfl⟩
          have HG2 := Lib.hid (show wr.heap[gR]? = some (.cells (rtCs s) 29 (0, 0)) from by rw [hs]; exact HG.out)
          rw [← hs] at HR
          obtain ⟨q0, q1, q2, q3, q4, q5, q6, q7, q8⟩ := prow9 HG2.out
          have hcb := rt_Bytes s wr
          unfold rtV rtCs at hcb
          generalize hys : rtB s = yb at *
          obtain ⟨ys, eb⟩ := yb
          have HC := Lib.hid hcb
          clear hcb hs hys HG
          go_wp2_with fail
          refine HC.out.mono ?_
          rintro e w5 ⟨A5, c5, rfl, ho, hb⟩
          simp only at ho
          have HO5 := Lib.hid ho
          have HS5 := Lib.hid (HS.out.fbn hb)
          have HG5 := Lib.hid ((hb.block _ (Array.getElem?_eq_some_iff.1 HG2.out).1).trans HG2.out)
          clear ho hb HC HS HG2 HD q0 q1 q2 q3 q4 q5 q6 q7 q8
          have hs0 := rt_store rt0 rt0 HS5.out.row
          unfold rtV at hs0
          rw [rt0_cs] at hs0
          have HE0 := Lib.hid (show FB w (w5.setRow w.heap.size (rtCs rt0)) ∧ (w5.setRow w.heap.size (rtCs rt0)).heap[w.heap.size]? = some (.cells (rtCs rt0) 29 (0, 0)) from ⟨HS5.out.fb.setRow (Nat.le_refl _) _, setRow_heap _ _ _ (rtCs rt0) _ _ HS5.out.row⟩)
          by_cases heb : eb = 0
          · subst heb
            have hs1 := run_string c5 (Own.info HO5.out).2.2.1
            have hs2 := HSB.out w5 HS5.out.fb
            by_cases hyb : ys = b
            · have hse : ((sb ys).toList == (sb b).toList) = true := by rw [sb_beq]; simpa using hyb
              have HRR := Lib.hid (show R = (s, 0) from by rw [HR.out, if_pos ⟨trivial, trivial, by rw [hyb]⟩])
              obtain ⟨q0, q1, q2, q3, q4, q5, q6, q7, q8⟩ := prow9 HG5.out
              have hst := rt_store rt0 s HS5.out.row
              have HEs := Lib.hid (show FB w (w5.setRow w.heap.size (rtCs s)) ∧ (w5.setRow w.heap.size (rtCs s)).heap[w.heap.size]? = some (.cells (rtCs s) 29 (0, 0)) from ⟨HS5.out.fb.setRow (Nat.le_refl _) _, setRow_heap _ _ _ (rtCs s) _ _ HS5.out.row⟩)
              unfold rtV rtCs at hst
              clear hyb hs0 HE0
              go_wp2_with (refine wpList_store_by rfl _ _ _ rfl _ hst ?_)
              try simp only [Exit.inBlock, Exit.then]
              refine bodyPost_ret (rt_ret rfl _ w.heap.size rfl _ HEs.out.2) rfl ?_
              rw [HRR.out]
              exact ⟨rfl, HEs.out.1⟩
            · have hse : ((sb ys).toList == (sb b).toList) = false := by rw [sb_beq]; simpa using hyb
              have HRR := Lib.hid (show R = (rt0, 4) from by rw [HR.out, if_neg (fun h => hyb (congrArg Prod.fst h.2.2))])
              clear hyb
              go_wp2_with (refine wpList_store_by rfl _ _ _ rfl _ hs0 ?_)
              try simp only [Exit.inBlock, Exit.then]
              refine bodyPost_ret (rt_ret rfl _ w.heap.size rfl _ HE0.out.2) rfl ?_
              rw [HRR.out]
              exact ⟨rfl, HE0.out.1⟩
          · have hkb : (eb != 0) = true := by simpa using heb
            have HRR := Lib.hid (show R = (rt0, 4) from by rw [HR.out, if_neg (fun h => heb (congrArg Prod.snd h.2.2))])
            clear heb
            go_wp2_with (refine wpList_store_by rfl _ _ _ rfl _ hs0 ?_)
            try simp only [Exit.inBlock, Exit.then]
            refine bodyPost_ret (rt_ret rfl _ w.heap.size rfl _ HE0.out.2) rfl ?_
            rw [HRR.out]
            exact ⟨rfl, HE0.out.1⟩
    · have hkb : (K != 1) = true := by simpa using hK
      have HRR := Lib.hid (show R = (rt0, 4) from HFAR.out (.inr hK))
      clear hK
      go_upto_region 2 with fail
      rw [← HW2.out]
      clear HW2
      go_wp2_with (refine wpList_store_by rfl _ _ _ rfl _ hs0 ?_)
      try simp only [Exit.inBlock, Exit.then]
      refine bodyPost_ret (rt_ret rfl _ w.heap.size rfl _ HE0.out.2) rfl ?_
      rw [HRR.out]
      exact ⟨rfl, HE0.out.1⟩
  · have hkb : (er != 0) = true := by simpa using her
    have HRR := Lib.hid (show R = (rt0, 4) from HFAR.out (.inl her))
    clear her
    go_upto_region 2 with fail
    rw [← HW2.out]
    clear HW2
    go_wp2_with (refine wpList_store_by rfl _ _ _ rfl _ hs0 ?_)
    try simp only [Exit.inBlock, Exit.then]
    refine bodyPost_ret (rt_ret rfl _ w.heap.size rfl _ HE0.out.2) rfl ?_
    rw [HRR.out]
    exact ⟨rfl, HE0.out.1⟩
end Go.Proofs.Ytihljjfnjclefaa
/- A map whose keys are ints, as the heap holds it: look-up, store, clear. -/
set_option linter.unusedVariables false
set_option linter.unusedSimpArgs false
namespace Go.Proofs.Ytihljjfnjclefaa
open Go.ChangeShapes Go.WideShapes Go.ChangeAt Go.RowKit Go.MapKept

def mget : List (Int × Value) → Int → Option Value
  | [], _ => none
  | (k', v) :: M, k => if k' = k then some v else mget M k
def mput : List (Int × Value) → Int → Value → List (Int × Value)
  | [], k, v => [(k, v)]
  | (k', v') :: M, k, v => if k' = k then (k, v) :: M else (k', v') :: mput M k v
/-- Block m is a map with these entries. -/
def MapAt (w : World) (m : Nat) (M : List (Int × Value)) : Prop :=
  ∃ es clock, w.heap[m]? = some (.map es clock) ∧ es.toList.map (fun e => (e.key, e.val)) = M.map (fun p => (Value.int .i64 p.1, p.2)) ∧ (∀ e ∈ es.toList, e.born < clock) ∧ (es.toList.map (·.born)).Nodup ∧ (M.map (·.1)).Nodup
theorem MapAt.lt {w : World} {m : Nat} {M : List (Int × Value)} (h : MapAt w m M) : m < w.heap.size := by
  obtain ⟨es, clock, h1, -⟩ := h
  exact (Array.getElem?_eq_some_iff.1 h1).1
theorem MapAt.block {w w' : World} {m : Nat} {M : List (Int × Value)} (h : MapAt w m M) (hb : w'.heap[m]? = w.heap[m]?) : MapAt w' m M := by
  obtain ⟨es, clock, h1, h2⟩ := h
  exact ⟨es, clock, hb.trans h1, h2⟩
theorem MapAt.new (w : World) : MapAt (w.alloc (.map #[] 0)) w.heap.size [] := ⟨#[], 0, heap_alloc_new _ _, rfl, by simp, by simp, by simp⟩
theorem isKey_all {es : List MapEntry} {M : List (Int × Value)} (h : es.map (fun e => (e.key, e.val)) = M.map (fun p => (Value.int .i64 p.1, p.2))) : ∀ x ∈ es, IsKey (.int .i64) x.key := by
  intro x hx
  have : (x.key, x.val) ∈ M.map (fun p => (Value.int .i64 p.1, p.2)) := by rw [← h]; exact List.mem_map.2 ⟨x, hx, rfl⟩
  obtain ⟨p, -, hp⟩ := List.mem_map.1 this
  simp only [Prod.mk.injEq] at hp
  rw [← hp.1]; rfl
theorem mget_none {es : List MapEntry} {k : Int} : ∀ {M : List (Int × Value)}, es.map (fun e => (e.key, e.val)) = M.map (fun p => (Value.int .i64 p.1, p.2)) → (∀ x ∈ es, x.key ≠ .int .i64 k) → mget M k = none ∧ ∀ v, mput M k v = M ++ [(k, v)] := by
  induction es with
  | nil => intro M h _; cases M with
    | nil => exact ⟨rfl, fun v => rfl⟩
    | cons p M => simp at h
  | cons e es ih => intro M h hne; cases M with
    | nil => simp at h
    | cons p M =>
      simp only [List.map_cons, List.cons.injEq, Prod.mk.injEq] at h
      obtain ⟨⟨hk, hv⟩, ht⟩ := h
      have h1 := ih ht (fun x hx => hne x (List.mem_cons_of_mem _ hx))
      have h0 : p.1 ≠ k := fun e0 => hne e (List.mem_cons_self) (by rw [hk, e0])
      obtain ⟨pk, pv⟩ := p
      exact ⟨by rw [mget, if_neg h0]; exact h1.1, fun v => by rw [mput, if_neg h0, h1.2]; rfl⟩
theorem mget_some {es : List MapEntry} {k : Int} {e0 : MapEntry} : ∀ {j : Nat} {M : List (Int × Value)}, es.map (fun e => (e.key, e.val)) = M.map (fun p => (Value.int .i64 p.1, p.2)) → (M.map (·.1)).Nodup → es[j]? = some e0 → e0.key = .int .i64 k →
    mget M k = some e0.val ∧ ∀ v, (es.modify j fun e => { e with key := .int .i64 k, val := v }).map (fun e => (e.key, e.val)) = (mput M k v).map (fun p => (Value.int .i64 p.1, p.2)) := by
  induction es with
  | nil => intro j M h hn hj; simp at hj
  | cons e es ih => intro j M h hn hj hk; cases M with
    | nil => simp at h
    | cons p M =>
      obtain ⟨pk, pv⟩ := p
      simp only [List.map_cons, List.cons.injEq, Prod.mk.injEq, List.nodup_cons] at h hn
      obtain ⟨⟨hk1, hv1⟩, ht⟩ := h
      cases j with
      | zero =>
        simp only [List.getElem?_cons_zero, Option.some.injEq] at hj
        subst hj
        have : pk = k := by rw [hk] at hk1; cases hk1; rfl
        subst this
        refine ⟨by rw [mget, if_pos rfl, hv1], fun v => ?_⟩
        rw [mput, if_pos rfl]
        simp [ht]
      | succ j =>
        simp only [List.getElem?_cons_succ] at hj
        have h1 := ih ht hn.2 hj hk
        have h0 : pk ≠ k := by
          intro e0'
          have : (e0.key, e0.val) ∈ M.map (fun p => (Value.int .i64 p.1, p.2)) := by rw [← ht]; exact List.mem_map.2 ⟨e0, List.mem_of_getElem? hj, rfl⟩
          obtain ⟨q, hq, hq2⟩ := List.mem_map.1 this
          simp only [Prod.mk.injEq] at hq2
          rw [hk] at hq2
          injection hq2.1 with _ e1
          exact hn.1 (List.mem_map.2 ⟨q, hq, by rw [e1, e0']⟩)
        refine ⟨by rw [mget, if_neg h0]; exact h1.1, fun v => ?_⟩
        rw [mput, if_neg h0]
        simp only [List.modify_succ_cons, List.map_cons, List.cons.injEq, Prod.mk.injEq]
        exact ⟨⟨hk1, hv1⟩, h1.2 v⟩
section
variable {P : Program} {t k e : TypeId} (ht : P.underlying t = some (.map k e)) (hk : P.underlying k = some (.int .i64))
include ht hk
theorem map_lookup {w : World} {m : Nat} {M : List (Int × Value)} {z : Value} (h : MapAt w m M) (x : Int) (ok : Bool) (hz : (zeroValue e).run P w = .ok z w) :
    (Instr.lookup t (.map (some m)) (.int .i64 x) ok).run P w = .ok (if ok then .tuple #[(mget M x).getD z, .bool (mget M x).isSome] else (mget M x).getD z) w := by
  obtain ⟨es, clock, h1, h2, h3, h4, h5⟩ := h
  have hkey : IsKey (.int .i64) (.int .i64 x) := rfl
  rcases findNow_spec hkey es.toList 0 (isKey_all h2) with ⟨f1, f2⟩ | ⟨j, e0, f1, f2, f3⟩
  · have hm := (mget_none h2 f2).1
    rw [hm]
    cases ok <;> simp [Instr.lookup, run_underlying ht, MapKept.run_getObj_map h1, run_checkKey hk hkey, run_findKey hk f1, hz, Result.andThen]
  · have hm := (mget_some h2 h5 f2 f3).1
    rw [hm]
    cases ok <;> simp [Instr.lookup, run_underlying ht, MapKept.run_getObj_map h1, run_checkKey hk hkey, run_findKey hk f1, Result.andThen]
theorem map_update {w : World} {m : Nat} {M : List (Int × Value)} (h : MapAt w m M) (x : Int) (v : Value) :
    ∃ w', (Instr.mapUpdate t (.map (some m)) (.int .i64 x) v).run P w = .ok () w' ∧ MapAt w' m (mput M x v) ∧ TB m w w' := by
  obtain ⟨es, clock, h1, h2, h3, h4, h5⟩ := h
  have hkey : IsKey (.int .i64) (.int .i64 x) := rfl
  have htb : ∀ o, TB m w { w with heap := w.heap.setIfInBounds m o } := fun o => ⟨rfl, rfl, rfl, by simp, fun k _ hk => by simp [show ¬ m = k from fun e => hk (by simp [e])]⟩
  have hlt := (Array.getElem?_eq_some_iff.1 h1).1
  rcases findNow_spec hkey es.toList 0 (isKey_all h2) with ⟨f1, f2⟩ | ⟨j, e0, f1, f2, f3⟩
  · have hm := (mget_none h2 f2).2 v
    have hm0 := (mget_none h2 f2).1
    refine ⟨_, by simp [Instr.mapUpdate, run_underlying ht, MapKept.run_getObj_map h1, run_checkKey hk hkey, run_findKey hk f1, MapKept.run_setObj_map _ h1, Result.andThen]; rfl, ⟨es.push ⟨.int .i64 x, v, clock⟩, clock + 1, by simp [hlt], ?_, ?_, ?_, ?_⟩, htb _⟩
    · rw [hm]; simp [h2]
    · intro e he
      simp only [Array.toList_push, List.mem_append, List.mem_singleton] at he
      rcases he with he | rfl
      · have := h3 e he; omega
      · simp
    · rw [Array.toList_push, List.map_append, List.nodup_append]
      refine ⟨h4, by simp, ?_⟩
      intro a ha b hb
      obtain ⟨e, he, rfl⟩ := List.mem_map.1 ha
      simp only [List.map_cons, List.map_nil, List.mem_singleton] at hb
      have := h3 e he
      omega
    · rw [hm, List.map_append, List.nodup_append]
      refine ⟨h5, by simp, ?_⟩
      intro a ha b hb
      simp only [List.map_cons, List.map_nil, List.mem_singleton] at hb
      subst hb
      rintro rfl
      obtain ⟨p, hp, hp1⟩ := List.mem_map.1 ha
      have : (Value.int .i64 p.1, p.2) ∈ es.toList.map (fun e => (e.key, e.val)) := by rw [h2]; exact List.mem_map.2 ⟨p, hp, rfl⟩
      obtain ⟨e, he, he2⟩ := List.mem_map.1 this
      simp only [Prod.mk.injEq] at he2
      exact f2 e he (by rw [he2.1, hp1])
  · have hm := (mget_some h2 h5 f2 f3).2 v
    have hj : es[j]? = some e0 := by simpa using f2
    refine ⟨_, by simp [Instr.mapUpdate, run_underlying ht, MapKept.run_getObj_map h1, run_checkKey hk hkey, run_findKey hk f1, hj, f3, run_keyThatStays hkey, MapKept.run_setObj_map _ h1, Result.andThen]; rfl, ⟨es.modify j (fun e' => { e' with key := .int .i64 x, val := v }), clock, by simp [hlt], ?_, ?_, ?_, ?_⟩, htb _⟩
    · rw [← hm, Array.toList_modify]
    · intro e he
      rcases MapFrom.mem_modify he with he | ⟨e', he', rfl⟩
      · exact h3 e he
      · exact h3 e' (List.mem_of_getElem? (by simpa using he'))
    · have : (es.modify j (fun e' => { e' with key := .int .i64 x, val := v })).toList.map (·.born) = es.toList.map (·.born) := by
        rw [Array.toList_modify]
        apply List.ext_getElem?
        intro i
        simp only [List.getElem?_map, List.getElem?_modify]
        split
        · cases es.toList[i]? <;> rfl
        · simp
      rw [this]; exact h4
    · have : (mput M x v).map (·.1) = M.map (·.1) := by
        have hs := (mget_some h2 h5 f2 f3).1
        clear hm h2 h5 htb
        revert hs
        generalize e0.val = q
        induction M with
        | nil => intro hs; cases hs
        | cons p M ih =>
          obtain ⟨pk, pv⟩ := p
          intro hs
          rw [mget] at hs
          rw [mput]
          by_cases h0 : pk = x
          · rw [if_pos h0]; simp [h0]
          · rw [if_neg h0] at hs ⊢
            simp [ih hs]
      rw [this]; exact h5
end
theorem map_clear {P : Program} {t k e : TypeId} (ht : P.underlying t = some (.map k e)) {w : World} {m : Nat} {M : List (Int × Value)} (h : MapAt w m M) (ty : TypeId) :
    ∃ w', (Builtin.clear_ #[t] ty #[.map (some m)]).run P w = .ok (.tuple #[]) w' ∧ MapAt w' m [] ∧ TB m w w' := by
  obtain ⟨es, clock, h1, h2, h3, h4, h5⟩ := h
  have hlt := (Array.getElem?_eq_some_iff.1 h1).1
  refine ⟨{ w with heap := w.heap.setIfInBounds m (.map #[] clock) }, by simp [Builtin.clear_, run_underlying ht, MapKept.run_getObj_map h1, MapKept.run_setObj_map _ h1, Result.andThen], ⟨#[], clock, by simp [hlt], rfl, by simp, by simp, by simp⟩, ⟨rfl, rfl, rfl, by simp, fun k _ hk => by simp [show ¬ m = k from fun e => hk (by simp [e])]⟩⟩
end Go.Proofs.Ytihljjfnjclefaa
/- A disk: its blocks; what may turn; the walks through made, Sectors, fails. -/
set_option linter.unusedVariables false
set_option linter.unusedSimpArgs false
namespace Go.Proofs.Ytihljjfnjclefaa
open Go.ChangeShapes Go.WideShapes Go.ChangeAt Go.RowKit Go.MapKept

theorem MapAt.ts {F : List Nat} {w w' : World} {m : Nat} {M : List (Int × Value)} (h : MapAt w m M) (k : TS F w w') (hm : m ∉ F) : MapAt w' m M := h.block (k.block m h.lt hm)
theorem row4 {W : World} {g : Nat} {a b c d : Value} {t : TypeId} {fr : Nat × Nat} (h : W.heap[g]? = some (.cells #[a, b, c, d] t fr)) :
    W.cell? ⟨g, 0, none⟩ = some a ∧ W.cell? ⟨g, 1, none⟩ = some b ∧ W.cell? ⟨g, 2, none⟩ = some c ∧ W.cell? ⟨g, 3, none⟩ = some d := by
  refine ⟨?_, ?_, ?_, ?_⟩ <;> (rw [cell_of_row _ _ _ _ _ _ h]; rfl)

/-- The cached bytes, each in a row that nothing else of the disk lies in. -/
inductive Vals (w : World) (F ctl : List Nat) : List (Int × Value) → List (Int × List Byte) → Prop
  | nil : Vals w F ctl [] []
  | cons {k : Int} {A : Option Addr} {c : Nat} {x : List Byte} {V : List (Int × Value)} {M : List (Int × List Byte)} (hr : Rd w A x) (h1 : x.length ≤ c) (h2 : c ≤ maxLen) (hb : ∀ ad, A = some ad → ad.block ∈ F ∧ ad.block ∉ ctl) (ht : Vals w F ctl V M) : Vals w F ctl ((k, .slice A x.length c) :: V) ((k, x) :: M)
theorem Vals.move {w w' : World} {F F' ctl ctl' : List Nat} {V : List (Int × Value)} {M : List (Int × List Byte)} (h : Vals w F ctl V M) (hr : ∀ A x, Rd w A x → (∀ ad, A = some ad → ad.block ∈ F ∧ ad.block ∉ ctl) → Rd w' A x) (hb : ∀ b, b ∈ F → b ∉ ctl → b ∈ F' ∧ b ∉ ctl') : Vals w' F' ctl' V M := by
  induction h with
  | nil => exact .nil
  | cons k1 h1 h2 k2 ht ih => exact .cons (hr _ _ k1 k2) h1 h2 (fun ad ha => hb _ (k2 ad ha).1 (k2 ad ha).2) ih
theorem Vals.keys {w : World} {F ctl : List Nat} {V : List (Int × Value)} {M : List (Int × List Byte)} (h : Vals w F ctl V M) : V.map (·.1) = M.map (·.1) := by
  induction h with
  | nil => rfl
  | cons k1 h1 h2 k2 ht ih => simp [ih]
/-- The bytes cached for a sector. -/
def cget : List (Int × List Byte) → Int → Option (List Byte)
  | [], _ => none
  | (k', v) :: M, k => if k' = k then some v else cget M k
def cput : List (Int × List Byte) → Int → List Byte → List (Int × List Byte)
  | [], k, v => [(k, v)]
  | (k', v') :: M, k, v => if k' = k then (k, v) :: M else (k', v') :: cput M k v
theorem Vals.get {w : World} {F ctl : List Nat} {V : List (Int × Value)} {M : List (Int × List Byte)} (h : Vals w F ctl V M) (k : Int) :
    (mget V k = none ∧ cget M k = none) ∨ ∃ A c x, mget V k = some (.slice A x.length c) ∧ cget M k = some x ∧ Rd w A x ∧ x.length ≤ c ∧ c ≤ maxLen ∧ ∀ ad, A = some ad → ad.block ∈ F ∧ ad.block ∉ ctl := by
  induction h with
  | nil => exact .inl ⟨rfl, rfl⟩
  | @cons k' A c x V M hr h1 h2 hb ht ih =>
    rw [mget, cget]
    by_cases h0 : k' = k
    · rw [if_pos h0, if_pos h0]; exact .inr ⟨A, c, x, rfl, rfl, hr, h1, h2, hb⟩
    · rw [if_neg h0, if_neg h0]; exact ih
theorem Vals.put {w : World} {F ctl : List Nat} {V : List (Int × Value)} {M : List (Int × List Byte)} (h : Vals w F ctl V M) (k : Int) {A : Option Addr} {c : Nat} {x : List Byte} (hr : Rd w A x) (h1 : x.length ≤ c) (h2 : c ≤ maxLen) (hb : ∀ ad, A = some ad → ad.block ∈ F ∧ ad.block ∉ ctl) :
    Vals w F ctl (mput V k (.slice A x.length c)) (cput M k x) := by
  induction h with
  | nil => exact .cons hr h1 h2 hb .nil
  | @cons k' A' c' x' V M hr' h1' h2' hb' ht ih =>
    rw [mput, cput]
    by_cases h0 : k' = k
    · rw [if_pos h0, if_pos h0]; exact .cons hr h1 h2 hb ht
    · rw [if_neg h0, if_neg h0]; exact .cons hr' h1' h2' hb' ih
/-- What a disk holds: its bytes, its cache in order, how many operations it does ahead of the one that fails. -/
structure DiskSt where
  b : List Byte
  M : List (Int × List Byte)
  fuse : Option Int
/-- May it be? (so many sectors) -/
structure DiskSt.ok (D : DiskSt) (n : Nat) : Prop where
  len : D.b.length = 512 * n
  n1 : 1 ≤ n
  n2 : n ≤ 32768
  M : ∀ p ∈ D.M, 0 ≤ p.1 ∧ p.1 < n ∧ p.2.length = 512
  f : ∀ z, D.fuse = some z → 0 ≤ z ∧ z ≤ 9223372036854775807
def optBlk (O : Option Addr) : List Nat := O.toList.map (·.block)
/-- The fuse's block, and what it holds. -/
def FuseAt (w : World) (L : Option Nat) (f : Option Int) : Prop := match L, f with | none, none => True | some l, some z => w.heap[l]? = some (.cells #[.int .i64 z] 3 (0, 0)) | _, _ => False
/-- A disk at block g, which owns the blocks F. -/
def Dsk (w : World) (F : List Nat) (g n : Nat) (D : DiskSt) : Prop :=
  ∃ (gb c gm : Nat) (O : Option Addr) (oc : Nat) (L : Option Nat) (V : List (Int × Value)),
    w.heap[g]? = some (.cells #[.slice (some ⟨gb, 0, none⟩) (512 * n) c, .map (some gm), .slice O D.M.length oc, .pointer (L.map fun l => ⟨l, 0, none⟩)] 100 (0, 0)) ∧
    Own w 0 (.slice (some ⟨gb, 0, none⟩) (512 * n) c) D.b ∧ MapAt w gm V ∧ Vals w F ([g, gb, gm] ++ (optBlk O ++ L.toList)) V D.M ∧
    OwnV 3 w 0 (.slice O D.M.length oc) (D.M.map fun p => .int .i64 p.1) ∧
    FuseAt w L D.fuse ∧
    ([g, gb, gm] ++ (optBlk O ++ L.toList)).Nodup ∧ (∀ x ∈ [g, gb, gm] ++ (optBlk O ++ L.toList), x ∈ F) ∧ D.ok n ∧ ∀ x ∈ F, x < w.heap.size
end Go.Proofs.Ytihljjfnjclefaa
/- A disk: the walks through made, Sectors, fails, Fail. -/
set_option linter.unusedVariables false
set_option linter.unusedSimpArgs false
namespace Go.Proofs.Ytihljjfnjclefaa
open Go.ChangeShapes Go.WideShapes Go.ChangeAt Go.RowKit Go.MapKept

/-- Something else has turned. -/
theorem Dsk.ts {w w' : World} {F F' : List Nat} {g n : Nat} {D : DiskSt} (h : Dsk w F g n D) (k : TS F' w w') (hd : ∀ x ∈ F', x ∉ F) : Dsk w' F g n D := by
  obtain ⟨gb, c, gm, O, oc, L, V, h1, h2, h3, h4, h5, h6, h7, h8, h9, h10⟩ := h
  have hn : ∀ x ∈ [g, gb, gm] ++ (optBlk O ++ L.toList), x ∉ F' := fun x hx hf => hd x hf (h8 x hx)
  refine ⟨gb, c, gm, O, oc, L, V, ?_, ?_, ?_, ?_, ?_, ?_, h7, h8, h9, fun x hx => Nat.lt_of_lt_of_le (h10 x hx) k.size⟩
  · rw [k.block g (Array.getElem?_eq_some_iff.1 h1).1 (hn g (by simp))]; exact h1
  · exact k.ownV h2 (fun b hb => by cases hb; exact hn gb (by simp))
  · exact h3.ts k (hn gm (by simp))
  · exact h4.move (fun A x hr hb => k.rd hr (fun ad ha hf => hd _ hf (hb ad ha).1)) (fun b h h' => ⟨h, h'⟩)
  · exact k.ownV h5 (fun b hb => by
      cases O with
      | none => cases hb
      | some ad => cases hb; exact hn _ (by simp [optBlk]))
  · unfold FuseAt at *
    revert h6
    generalize D.fuse = fz
    intro h6
    cases L with
    | none => cases fz with
      | none => trivial
      | some z => exact h6
    | some l => cases fz with
      | none => exact h6
      | some z =>
        simp only at h6 ⊢
        rw [k.block l (Array.getElem?_eq_some_iff.1 h6).1 (hn l (by simp))]; exact h6
theorem Dsk.fb {w w' : World} {F : List Nat} {g n : Nat} {D : DiskSt} (h : Dsk w F g n D) (k : FB w w') : Dsk w' F g n D := h.ts (F' := []) (TS.of k) (by simp)
theorem Dsk.lt {w : World} {F : List Nat} {g n : Nat} {D : DiskSt} (h : Dsk w F g n D) : ∀ x ∈ F, x < w.heap.size := by
  obtain ⟨gb, c, gm, O, oc, L, V, h1, h2, h3, h4, h5, h6, h7, h8, h9, h10⟩ := h
  exact h10
theorem Dsk.mem {w : World} {F : List Nat} {g n : Nat} {D : DiskSt} (h : Dsk w F g n D) : g ∈ F := by
  obtain ⟨gb, c, gm, O, oc, L, V, h1, h2, h3, h4, h5, h6, h7, h8, h9, h10⟩ := h
  exact h8 g (by simp)
theorem Dsk.ok {w : World} {F : List Nat} {g n : Nat} {D : DiskSt} (h : Dsk w F g n D) : D.ok n := by
  obtain ⟨gb, c, gm, O, oc, L, V, h1, h2, h3, h4, h5, h6, h7, h8, h9, h10⟩ := h
  exact h9
/-- The fuse: none; or a block of its own, which may be written. -/
theorem Dsk.fuse_cases {w : World} {F : List Nat} {g n : Nat} {D : DiskSt} (h : Dsk w F g n D) :
    (D.fuse = none ∧ w.cell? ⟨g, 3, none⟩ = some (.pointer none)) ∨
    ∃ l z, D.fuse = some z ∧ 0 ≤ z ∧ z ≤ 9223372036854775807 ∧ w.cell? ⟨g, 3, none⟩ = some (.pointer (some ⟨l, 0, none⟩)) ∧ w.cell? ⟨l, 0, none⟩ = some (.int .i64 z) ∧ w.frozen? ⟨l, 0, none⟩ = false ∧
      ∀ z', 0 ≤ z' ∧ z' ≤ 9223372036854775807 → Dsk (w.setCell ⟨l, 0, none⟩ (.int .i64 z')) F g n { D with fuse := some z' } ∧ TS F w (w.setCell ⟨l, 0, none⟩ (.int .i64 z')) := by
  obtain ⟨gb, c, gm, O, oc, L, V, h1, h2, h3, h4, h5, h6, h7, h8, h9, h10⟩ := h
  obtain ⟨q0, q1, q2, q3⟩ := row4 h1
  unfold FuseAt at h6
  cases L with
  | none =>
    left
    refine ⟨?_, q3⟩
    cases hf : D.fuse with
    | none => rfl
    | some z => rw [hf] at h6; exact absurd h6 (by simp)
  | some l =>
    right
    cases hf : D.fuse with
    | none => rw [hf] at h6; exact absurd h6 (by simp)
    | some z =>
      rw [hf] at h6
      simp only at h6
      have hz := h9.f z hf
      refine ⟨l, z, rfl, hz.1, hz.2, q3, by rw [cell_of_row _ _ _ _ _ _ h6]; rfl, frozen_row _ h6 0, fun z' hz' => ?_⟩
      have htb : TB l w (w.setCell ⟨l, 0, none⟩ (.int .i64 z')) := TB.set w 0 _
      have hts : TS [l] w (w.setCell ⟨l, 0, none⟩ (.int .i64 z')) := TS.tb htb (by simp)
      have hne : ∀ x ∈ [g, gb, gm] ++ optBlk O, x ∉ [l] := by
        intro x hx hl
        simp only [List.mem_singleton] at hl
        subst hl
        rw [← List.append_assoc, List.nodup_append] at h7
        exact h7.2.2 x hx x (by simp) rfl
      refine ⟨⟨gb, c, gm, O, oc, some l, V, ?_, ?_, ?_, ?_, ?_, ?_, h7, h8, ?_, fun x hx => by simpa using h10 x hx⟩, TS.tb htb (h8 l (by simp))⟩
      · rw [hts.block g (Array.getElem?_eq_some_iff.1 h1).1 (hne g (by simp))]; exact h1
      · exact hts.ownV h2 (fun b hb => by cases hb; exact hne gb (by simp))
      · exact h3.ts hts (hne gm (by simp))
      · exact h4.move (fun A x hr hb => hts.rd hr (fun ad ha hf => (hb ad ha).2 (by simp at hf; rw [hf]; simp))) (fun b h h' => ⟨h, h'⟩)
      · exact hts.ownV h5 (fun b hb => by
          cases O with
          | none => cases hb
          | some ad => cases hb; exact hne _ (by simp [optBlk]))
      · unfold FuseAt
        simp only
        rw [heap_setCell_same _ _ _ _ _ _ h6]; rfl
      · exact ⟨h9.len, h9.n1, h9.n2, h9.M, fun z'' hz'' => by cases hz''; exact hz'⟩
/-- The fuse taken away. -/
theorem Dsk.unfuse {w : World} {F : List Nat} {g n : Nat} {D : DiskSt} (h : Dsk w F g n D) :
    w.frozen? ⟨g, 3, none⟩ = false ∧ (∃ p, w.cell? ⟨g, 3, none⟩ = some (.pointer p)) ∧ Dsk (w.setCell ⟨g, 3, none⟩ (.pointer none)) F g n { D with fuse := none } ∧ TS F w (w.setCell ⟨g, 3, none⟩ (.pointer none)) := by
  obtain ⟨gb, c, gm, O, oc, L, V, h1, h2, h3, h4, h5, h6, h7, h8, h9, h10⟩ := h
  obtain ⟨q0, q1, q2, q3⟩ := row4 h1
  have hts : TS [g] w (w.setCell ⟨g, 3, none⟩ (.pointer none)) := TS.tb (TB.set w 3 _) (by simp)
  have hsub : ([g, gb, gm] ++ (optBlk O ++ ([] : List Nat))).Sublist ([g, gb, gm] ++ (optBlk O ++ L.toList)) := List.Sublist.append_left (List.Sublist.append_left (List.nil_sublist _) _) _
  have hne : ∀ x ∈ [gb, gm] ++ (optBlk O ++ L.toList), x ∉ [g] := by
    intro x hx hl
    simp only [List.mem_singleton] at hl
    subst hl
    simp only [List.cons_append, List.nil_append, List.nodup_cons] at h7
    exact h7.1 (by simpa using hx)
  refine ⟨frozen_row _ h1 3, ⟨_, q3⟩, ⟨gb, c, gm, O, oc, none, V, ?_, ?_, ?_, ?_, ?_, trivial, h7.sublist hsub, fun x hx => h8 x (hsub.subset hx), ⟨h9.len, h9.n1, h9.n2, h9.M, fun z hz => by cases hz⟩, fun x hx => by simpa using h10 x hx⟩, TS.tb (TB.set w 3 _) (h8 g (by simp))⟩
  · rw [heap_setCell_same _ _ _ _ _ _ h1]; rfl
  · exact hts.ownV h2 (fun b hb => by cases hb; exact hne gb (by simp))
  · exact h3.ts hts (hne gm (by simp))
  · exact h4.move (fun A x hr hb => hts.rd hr (fun ad ha hf => (hb ad ha).2 (by simp at hf; rw [hf]; simp))) (fun b h h' => ⟨h, fun hm => h' (hsub.subset hm)⟩)
  · exact hts.ownV h5 (fun b hb => by
      cases O with
      | none => cases hb
      | some ad => cases hb; exact hne _ (by simp [optBlk]))
/-- What a walk is given of it. -/
theorem Dsk.cells {w : World} {F : List Nat} {g n : Nat} {D : DiskSt} (h : Dsk w F g n D) : ∃ (gb c gm : Nat) (O : Option Addr) (oc : Nat) (L : Option Nat),
    w.cell? ⟨g, 0, none⟩ = some (.slice (some ⟨gb, 0, none⟩) (512 * n) c) ∧ w.cell? ⟨g, 1, none⟩ = some (.map (some gm)) ∧ w.cell? ⟨g, 2, none⟩ = some (.slice O D.M.length oc) ∧ w.cell? ⟨g, 3, none⟩ = some (.pointer (L.map fun l => ⟨l, 0, none⟩)) ∧
    w.frozen? ⟨g, 2, none⟩ = false ∧ w.frozen? ⟨g, 3, none⟩ = false ∧ 1 ≤ n ∧ n ≤ 32768 := by
  obtain ⟨gb, c, gm, O, oc, L, V, h1, h2, h3, h4, h5, h6, h7, h8, h9, h10⟩ := h
  obtain ⟨q0, q1, q2, q3⟩ := row4 h1
  exact ⟨gb, c, gm, O, oc, L, q0, q1, q2, q3, frozen_row _ h1 _, frozen_row _ h1 _, h9.n1, h9.n2⟩
set_option maxRecDepth 100000 in
set_option maxHeartbeats 400000 in
theorem dsk_made {w : World} {F : List Nat} {g n : Nat} {D : DiskSt} (h : Dsk w F g n D) :
    Calls Try.prog 57 #[.pointer (some ⟨g, 0, none⟩)] w fun e w' => e = .returned (.bool true) ∧ w = w' := by
  obtain ⟨gb, c, gm, O, oc, L, q0, q1, q2, q3, f2, f3, hn1, hn2⟩ := h.cells
  have hnil : ∀ W, (binOp .neq 97 (.map (some gm)) (.map none)).run Try.prog W = .ok (.bool true) W := fun W => run_neq_map_nil W 97 _ _ (some gm) Try.underlying97
  clear h
  go_enter Try.func57, Try.ntmps57
  go_wp2
  go_ret
  exact ⟨rfl, rfl⟩
set_option maxRecDepth 100000 in
set_option maxHeartbeats 400000 in
theorem dsk_Sectors {w : World} {F : List Nat} {g n : Nat} {D : DiskSt} (h : Dsk w F g n D) :
    Calls Try.prog 42 #[.pointer (some ⟨g, 0, none⟩)] w fun e w' => e = .returned (.int .i64 (n : Int)) ∧ w = w' := by
  obtain ⟨gb, c, gm, O, oc, L, q0, q1, q2, q3, f2, f3, hn1, hn2⟩ := h.cells
  have H := Lib.hid h
  have hq : ((512 * n : Nat) : Int).tdiv 512 = (n : Int) := by rw [Int.tdiv_eq_ediv_of_nonneg (by omega)]; omega
  have hq2 : (512 * (n : Int)).tdiv 512 = (n : Int) := by rw [Int.tdiv_eq_ediv_of_nonneg (by omega)]; omega
  clear h
  go_enter Try.func42, Try.ntmps42
  go_wp2_with fail
  refine (dsk_made H.out).mono ?_
  rintro e w1 ⟨rfl, rfl⟩
  go_wp2
  go_ret
  refine ⟨?_, rfl⟩
  first | rfl | (congr 2)
/-- Does the operation fail; and what is left of the fuse. -/
def ffail : Option Int → Bool × Option Int
  | none => (false, none)
  | some z => if 0 < z then (false, some (z - 1)) else (true, none)
set_option maxRecDepth 100000 in
set_option maxHeartbeats 1000000 in
theorem dsk_fails {w : World} {F : List Nat} {g n : Nat} {D : DiskSt} (h : Dsk w F g n D) :
    Calls Try.prog 59 #[.pointer (some ⟨g, 0, none⟩)] w fun e w' => e = .returned (.bool (ffail D.fuse).1) ∧ Dsk w' F g n { D with fuse := (ffail D.fuse).2 } ∧ TS F w w' := by
  have H := Lib.hid h
  rcases h.fuse_cases with ⟨hf, q3⟩ | ⟨l, z, hf, hz0, hz1, q3, q4, f4, hset⟩
  · have hD : ({ D with fuse := (ffail none).2 } : DiskSt) = D := by
      cases D; simp only [ffail] at hf ⊢; rw [← hf]
    rw [hf, hD]
    have HH := Lib.hid H.out
    clear hf hD h H
    go_enter Try.func59, Try.ntmps59
    go_wp2
    go_ret
    exact ⟨rfl, HH.out, TS.refl _ _⟩
  · by_cases hp : 0 < z
    · have hS := hset (z - 1) (by omega)
      have HS := Lib.hid hS
      have hw1 : IntKind.i64.wrap (z - 1) = z - 1 := by rw [IntKind.wrap_i64]; omega
      rw [hf, ffail, if_pos hp]
      clear hset hS h hf
      go_enter Try.func59, Try.ntmps59
      go_wp2
      go_ret
      exact ⟨rfl, HS.out.1, HS.out.2⟩
    · obtain ⟨f3, -, hu1, hu2⟩ := h.unfuse
      have HS := Lib.hid (And.intro hu1 hu2)
      rw [hf, ffail, if_neg hp]
      clear hset hu1 hu2 h hf
      go_enter Try.func59, Try.ntmps59
      go_wp2
      go_ret
      exact ⟨rfl, HS.out.1, HS.out.2⟩
/-- A fuse laid in. -/
theorem Dsk.light {w : World} {F : List Nat} {g n : Nat} {D : DiskSt} (h : Dsk w F g n D) (hf : D.fuse = none) (l : Nat) (z : Int) (hl : w.heap[l]? = some (.cells #[.int .i64 z] 3 (0, 0))) (hn : l ∉ F) (hz : 0 ≤ z ∧ z ≤ 9223372036854775807) :
    Dsk (w.setCell ⟨g, 3, none⟩ (.pointer (some ⟨l, 0, none⟩))) (l :: F) g n { D with fuse := some z } ∧ TS F w (w.setCell ⟨g, 3, none⟩ (.pointer (some ⟨l, 0, none⟩))) := by
  obtain ⟨gb, c, gm, O, oc, L, V, h1, h2, h3, h4, h5, h6, h7, h8, h9, h10⟩ := h
  unfold FuseAt at h6
  cases L with
  | some l' => rw [hf] at h6; exact absurd h6 (by simp)
  | none =>
    have hts : TS [g] w (w.setCell ⟨g, 3, none⟩ (.pointer (some ⟨l, 0, none⟩))) := TS.tb (TB.set w 3 _) (by simp)
    have hlc : ∀ x ∈ [g, gb, gm] ++ (optBlk O ++ ([] : List Nat)), x ≠ l := fun x hx e => hn (e ▸ h8 x (by simpa using hx))
    have hne : ∀ x ∈ [gb, gm] ++ optBlk O, x ∉ [g] := by
      intro x hx hl
      simp only [List.mem_singleton] at hl
      subst hl
      simp only [List.cons_append, List.nil_append, List.nodup_cons] at h7
      exact h7.1 (by simpa using hx)
    refine ⟨⟨gb, c, gm, O, oc, some l, V, ?_, ?_, ?_, ?_, ?_, ?_, ?_, ?_, ⟨h9.len, h9.n1, h9.n2, h9.M, fun z' hz' => by cases hz'; exact hz⟩, ?_⟩, TS.tb (TB.set w 3 _) (h8 g (by simp))⟩
    · rw [heap_setCell_same _ _ _ _ _ _ h1]; rfl
    · exact hts.ownV h2 (fun b hb => by cases hb; exact hne gb (by simp))
    · exact h3.ts hts (hne gm (by simp))
    · exact h4.move (fun A x hr hb => hts.rd hr (fun ad ha hf => (hb ad ha).2 (by simp at hf; rw [hf]; simp))) (fun b h h' => ⟨List.mem_cons_of_mem _ h, fun hm => by
        simp only [Option.toList_some, List.mem_append, List.mem_singleton, List.mem_cons] at hm
        rcases hm with hm | hm | hm
        · exact h' (by simp only [List.mem_append]; exact .inl (by simpa using hm))
        · exact h' (by simp only [List.mem_append]; exact .inr (.inl hm))
        · rcases hm with hm | hm
          · exact hn (hm ▸ h)
          · cases hm⟩)
    · exact hts.ownV h5 (fun b hb => by
        cases O with
        | none => cases hb
        | some ad => cases hb; exact hne _ (by simp [optBlk]))
    · unfold FuseAt
      simp only
      rw [hts.block l (Array.getElem?_eq_some_iff.1 hl).1 (fun hm => by simp at hm; exact hlc g (by simp) hm.symm)]; exact hl
    · rw [Option.toList_some, ← List.append_assoc, List.nodup_append]
      refine ⟨by simpa using h7, by simp, fun a ha b hb => ?_⟩
      simp only [List.mem_singleton] at hb
      subst hb
      exact hlc a (by simpa using ha)
    · intro x hx
      rw [Option.toList_some, ← List.append_assoc, List.mem_append] at hx
      rcases hx with hx | hx
      · exact List.mem_cons_of_mem _ (h8 x (by simpa using hx))
      · simp only [List.mem_singleton] at hx; subst hx; exact List.mem_cons_self
    · intro x hx
      simp only [List.mem_cons] at hx
      rcases hx with rfl | hx
      · simpa using (Array.getElem?_eq_some_iff.1 hl).1
      · simpa using h10 x hx
/-- What an operation leaves: the disk, with blocks of its own and new ones; nothing else turned. -/
def DskRes (w : World) (F : List Nat) (g n : Nat) (D : DiskSt) (w' : World) : Prop := ∃ F', (∀ x ∈ F', x ∈ F ∨ w.heap.size ≤ x) ∧ Dsk w' F' g n D ∧ TS F w w'
set_option maxRecDepth 100000 in
set_option maxHeartbeats 1000000 in
theorem dsk_Fail {w : World} {F : List Nat} {g n : Nat} {D : DiskSt} (h : Dsk w F g n D) (z : Int) (hz : z ≤ 9223372036854775807) :
    Calls Try.prog 30 #[.pointer (some ⟨g, 0, none⟩), .int .i64 z] w fun e w' => e = .returned (.int .i64 0) ∧ DskRes w F g n { D with fuse := if 0 ≤ z then some z else none } w' := by
  have hF := h.lt
  have hwn : w.heap.size ∉ F := fun hm => by have := hF _ hm; omega
  have hb := h.fb ((FB.refl w).alloc (.cells #[.int .i64 z] 3))
  have HB := Lib.hid hb
  obtain ⟨f3, ⟨p, q3⟩, hu1, hu2⟩ := hb.unfuse
  have HU := Lib.hid (And.intro hu1 hu2)
  have hrow : (w.alloc (.cells #[.int .i64 z] 3)).heap[w.heap.size]? = some (.cells #[.int .i64 z] 3 (0, 0)) := heap_alloc_new _ _
  have hg := h.mem
  have hgl : g ≠ w.heap.size := fun e => hwn (e ▸ hg)
  have hrow2 : ((w.alloc (.cells #[.int .i64 z] 3)).setCell ⟨g, 3, none⟩ (.pointer none)).heap[w.heap.size]? = some (.cells #[.int .i64 z] 3 (0, 0)) := by
    rw [heap_setCell_other _ _ _ _ (fun e => hgl (by simpa using e.symm))]; exact hrow
  have q4 : ((w.alloc (.cells #[.int .i64 z] 3)).setCell ⟨g, 3, none⟩ (.pointer none)).cell? ⟨w.heap.size, 0, none⟩ = some (.int .i64 z) := by rw [cell_of_row _ _ _ _ _ _ hrow2]; rfl
  have HROW := Lib.hid hrow2
  have HFB := Lib.hid ((FB.refl w).alloc (.cells #[.int .i64 z] 3))
  clear hu1 hu2 hb hrow hrow2
  by_cases h0 : 0 ≤ z
  · rw [if_pos h0]
    obtain ⟨fb3, ⟨p2, qb3⟩, -, -⟩ := HU.out.1.unfuse
    have HLI := Lib.hid (HU.out.1.light rfl w.heap.size z HROW.out hwn ⟨h0, hz⟩)
    clear h
    go_enter Try.func30, Try.ntmps30
    go_wp2_with fail
    refine (dsk_made HB.out).mono ?_
    rintro e w1 ⟨rfl, rfl⟩
    have qb : (w.alloc (.cells #[.int .i64 z] 3)).cell? ⟨w.heap.size, 0, none⟩ = some (.int .i64 z) := by rw [cell_of_row _ _ _ _ _ _ (heap_alloc_new _ _)]; rfl
    generalize w.alloc (.cells #[.int .i64 z] 3) = w0 at *
    go_wp2
    go_ret
    exact ⟨rfl, w.heap.size :: F, fun x hx => by
      simp only [List.mem_cons] at hx
      rcases hx with rfl | hx
      · exact .inr (Nat.le_refl _)
      · exact .inl hx, HLI.out.1, ((TS.of HFB.out).then HU.out.2).then HLI.out.2⟩
  · rw [if_neg h0]
    clear h
    go_enter Try.func30, Try.ntmps30
    go_wp2_with fail
    refine (dsk_made HB.out).mono ?_
    rintro e w1 ⟨rfl, rfl⟩
    have qb : (w.alloc (.cells #[.int .i64 z] 3)).cell? ⟨w.heap.size, 0, none⟩ = some (.int .i64 z) := by rw [cell_of_row _ _ _ _ _ _ (heap_alloc_new _ _)]; rfl
    generalize w.alloc (.cells #[.int .i64 z] 3) = w0 at *
    go_wp2
    go_ret
    exact ⟨rfl, F, fun x hx => .inl hx, HU.out.1, (TS.of HFB.out).then HU.out.2⟩
end Go.Proofs.Ytihljjfnjclefaa
