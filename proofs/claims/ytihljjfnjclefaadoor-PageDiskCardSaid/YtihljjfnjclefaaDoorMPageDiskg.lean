/- Walks and laws that the claim's last text stands on, several texts in one file: PgE, PgL, Mp, Dsk, DskA. Under the hypotheses that each theorem states. -/
import Derived.MapKept
import Derived.ChangeMaps4
import Derived.WalkSpells
import Derived.Test.YtihljjfnjclefaaDoorMPageDiska
import Derived.Test.YtihljjfnjclefaaDoorMPageDiskb
import Derived.Test.YtihljjfnjclefaaDoorMPageDiskc
import Derived.Test.YtihljjfnjclefaaDoorMPageDiskd
import Derived.Test.YtihljjfnjclefaaDoorMPageDiske
import Derived.Test.YtihljjfnjclefaaDoorMPageDiskf
/- page: the walks through Kind, Same. -/
set_option linter.unusedVariables false
set_option linter.unusedSimpArgs false
namespace Go.Proofs.YtihljjfnjclefaaDoor
open Go.ChangeShapes Go.WideShapes Go.ChangeAt Go.RowKit
attribute [local go_sem] nb_nonneg nb_lt8 nb_lt64
set_option maxRecDepth 100000

set_option maxHeartbeats 1000000 in
theorem pg_Kind (b : List Byte) (A : Option Addr) (c : Nat) (w : World) (hl : b.length ≤ 1000000000) (hc : b.length ≤ c) (hm : c ≤ maxLen) (hr : Rd w A b) :
    Calls Tryd.prog 18 #[.slice A b.length c] w fun e w' => e = .returned (.int .i64 (pgR b).1.1) ∧ FB w w' := by
  have HC := Lib.hid (pg_Read b A c w hl hc hm hr)
  generalize pgR b = r at *
  obtain ⟨⟨K, n, x⟩, er⟩ := r
  clear hl hc hm hr
  go_enter Tryd.func18, Tryd.ntmps18
  go_wp2_with fail
  refine HC.out.mono ?_
  rintro e w1 ⟨A1, c1, rfl, hr, hc, hm, hb⟩
  have HF := Lib.hid (hb.alloc (.cells #[.int .i64 K, .int .u32 (nb n), .slice A1 x.length c1] 25))
  clear hr hc hm hb
  go_wp2
  go_ret
  exact ⟨rfl, HF.out⟩
theorem pbox22 (w : World) (a b c d e f : Value) : let W := (w.alloc (.cells #[a, b, c] 25)).alloc (.cells #[d, e, f] 25)
    FB w W ∧ W.heap[w.heap.size]? = some (.cells #[a, b, c] 25 (0, 0)) ∧ W.heap[w.heap.size + 1]? = some (.cells #[d, e, f] 25 (0, 0)) ∧ W.heap.size = w.heap.size + 2 := by
  refine ⟨((FB.refl w).alloc _).alloc _, ?_, ?_, by simp⟩
  · rw [((FB.refl (w.alloc (.cells #[a, b, c] 25))).alloc _).block _ (by simp)]; exact heap_alloc_new _ _
  · have := heap_alloc_new (w.alloc (.cells #[a, b, c] 25)) (.cells #[d, e, f] 25)
    simpa using this
set_option maxHeartbeats 2000000 in
theorem pg_Same (K K' : Int) (n n' : BitVec 32) (x y : List Byte) (A B : Option Addr) (ca cb : Nat) (w : World) (hx : x.length ≤ 1000000000) (hy : y.length ≤ 1000000000) (hca : x.length ≤ ca) (hcb : y.length ≤ cb) (hma : ca ≤ maxLen) (hmb : cb ≤ maxLen) (hra : Rd w A x) (hrb : Rd w B y) :
    Calls Tryd.prog 15 #[.agg #[.int .i64 K, .int .u32 (nb n), .slice A x.length ca], .agg #[.int .i64 K', .int .u32 (nb n'), .slice B y.length cb]] w fun e w' => e = .returned (.bool (pgSame K n x K' n' y)) ∧ FB w w' := by
  obtain ⟨hf, hb1, hb2, -⟩ := pbox22 w (.int .i64 K) (.int .u32 (nb n)) (.slice A x.length ca) (.int .i64 K') (.int .u32 (nb n')) (.slice B y.length cb)
  have HF0 := Lib.hid hf
  have HB1 := Lib.hid (prow3 hb1)
  have HB2 := Lib.hid (prow3 hb2)
  have HT1 := Lib.hid (fun W (h : FB w W) => by_Trim x A ca W hx hca hma (h.rd hra))
  have HT2 := Lib.hid (fun W (h : FB w W) => by_Trim y B cb W hy hcb hmb (h.rd hrb))
  have HTE := Lib.hid (fun W (h : FB w W) => by_Equal (trimz x) (trimz y) A B ca cb W (by have := (h.rd hra).take (trimz x).length; rw [← trimz_pre] at this; exact this) (by have := (h.rd hrb).take (trimz y).length; rw [← trimz_pre] at this; exact this))
  obtain ⟨R, hR⟩ : ∃ R, R = pgSame K n x K' n' y := ⟨_, rfl⟩
  rw [← hR]
  unfold pgSame at hR
  clear hf hb1 hb2 hx hy hca hcb hma hmb hra hrb
  by_cases hk : K = K'
  · by_cases hn : n = n'
    · have hke : (K == K') = true := by simpa using hk
      have hne : (nb n == nb n') = true := by rw [nb_beq]; simpa using hn
      have HRR := Lib.hid (show R = decide (trimz x = trimz y) from by rw [hR, decide_eq_true hk, decide_eq_true hn]; rfl)
      clear hR hk hn
      go_enter Tryd.func15, Tryd.ntmps15
      go_wp2_with fail
      obtain ⟨W1, hW1⟩ : ∃ W1 : World, W1 = (w.alloc (.cells #[.int .i64 K, .int .u32 (nb n), .slice A x.length ca] 25)).alloc (.cells #[.int .i64 K', .int .u32 (nb n'), .slice B y.length cb] 25) := ⟨_, rfl⟩
      simp only [← hW1] at HF0 HB1 HB2 ⊢
      clear hW1
      obtain ⟨W0, hW0⟩ : ∃ W0 : World, W0 = W1 := ⟨_, rfl⟩
      rw [← hW0]
      refine region_sch (E := FB) ((0, true) :: (1, true) :: (2, true) :: (3, true) :: (4, true) :: (5, true) :: (6, true) :: (7, true) :: (8, true) :: (9, true) :: (10, true) :: (11, true) :: (12, true) :: (13, true) :: (14, true) :: (16, true) :: (17, true) :: (15, false) :: (18, false) :: (19, false) :: (20, true) :: (21, true) :: []) (by kernel_rfl) FB.refl fb_trans (fun _ _ d _ _ h => by cases d <;> exact h) (by kernel_rfl) ?_
      intro ops hops0
      have hops := Lib.hid hops0
      clear hops0
      have HF : FB W0 W0.drew := (FB.refl _).drew
      generalize W0.drew = wF at *
      have HFq := Lib.hid (show FB W1 wF from by rw [← hW0]; exact HF)
      have HFx := Lib.hid (HF0.out.trans HFq.out)
      clear hW0 HF HF0
      have K1 := Lib.hid (FB.cell HFq.out HB1.out.1)
      have K2 := Lib.hid (FB.cell HFq.out HB1.out.2.1)
      have K3 := Lib.hid (FB.cell HFq.out HB1.out.2.2)
      have K4 := Lib.hid (FB.cell HFq.out HB2.out.1)
      have K5 := Lib.hid (FB.cell HFq.out HB2.out.2.1)
      have K6 := Lib.hid (FB.cell HFq.out HB2.out.2.2)
      have HF := FB.refl wF
      repeat (refine sch_take (o := ?_) (v := ?_) (a' := ?_) (at_of hops.out ?_) ?_ (fun W hW => ?_) ?_ ?_; rotate_left 3; (focus (simp only [List.getElem?_toArray, List.getElem?_cons_zero, List.getElem?_cons_succ]; rfl)); (focus (rw [hops.out]; rfl)); (focus (have u1 := FB.cell hW K1.out; have u2 := FB.cell hW K2.out; have u3 := FB.cell hW K3.out; have u4 := FB.cell hW K4.out; have u5 := FB.cell hW K5.out; have u6 := FB.cell hW K6.out; go_simp; with_reducible rfl)); (focus (simp only [Act.put, List.setIfInBounds_toArray, List.set_cons_zero, List.set_cons_succ]; rfl)))
      (refine sch_call (o := ?_) (f := ?_) (args := ?_) (at_of hops.out ?_) ?_ ?_ ?_; rotate_left 3; (focus (simp only [List.getElem?_toArray, List.getElem?_cons_zero, List.getElem?_cons_succ]; rfl)); (focus (rw [hops.out]; rfl)); (focus (go_simp; constructor <;> with_reducible rfl)); (first | ((with_reducible refine (HT1.out _ (HFx.out.trans HF)).mono ?_); rintro e w' ⟨rfl, rfl⟩; refine ⟨_, rfl, FB.refl _, ?_⟩; intro a' ha'; simp only [Act.put, List.setIfInBounds_toArray, List.set_cons_zero, List.set_cons_succ] at ha'; subst ha')))
      repeat (refine sch_take (o := ?_) (v := ?_) (a' := ?_) (at_of hops.out ?_) ?_ (fun W hW => ?_) ?_ ?_; rotate_left 3; (focus (simp only [List.getElem?_toArray, List.getElem?_cons_zero, List.getElem?_cons_succ]; rfl)); (focus (rw [hops.out]; rfl)); (focus (go_simp; with_reducible rfl)); (focus (simp only [Act.put, List.setIfInBounds_toArray, List.set_cons_zero, List.set_cons_succ]; rfl)))
      (refine sch_call (o := ?_) (f := ?_) (args := ?_) (at_of hops.out ?_) ?_ ?_ ?_; rotate_left 3; (focus (simp only [List.getElem?_toArray, List.getElem?_cons_zero, List.getElem?_cons_succ]; rfl)); (focus (rw [hops.out]; rfl)); (focus (go_simp; constructor <;> with_reducible rfl)); (first | ((with_reducible refine (HT2.out _ (HFx.out.trans HF)).mono ?_); rintro e w' ⟨rfl, rfl⟩; refine ⟨_, rfl, FB.refl _, ?_⟩; intro a' ha'; simp only [Act.put, List.setIfInBounds_toArray, List.set_cons_zero, List.set_cons_succ] at ha'; subst ha')))
      repeat (refine sch_take (o := ?_) (v := ?_) (a' := ?_) (at_of hops.out ?_) ?_ (fun W hW => ?_) ?_ ?_; rotate_left 3; (focus (simp only [List.getElem?_toArray, List.getElem?_cons_zero, List.getElem?_cons_succ]; rfl)); (focus (rw [hops.out]; rfl)); (focus (go_simp; with_reducible rfl)); (focus (simp only [Act.put, List.setIfInBounds_toArray, List.set_cons_zero, List.set_cons_succ]; rfl)))
      (refine sch_call (o := ?_) (f := ?_) (args := ?_) (at_of hops.out ?_) ?_ ?_ ?_; rotate_left 3; (focus (simp only [List.getElem?_toArray, List.getElem?_cons_zero, List.getElem?_cons_succ]; rfl)); (focus (rw [hops.out]; rfl)); (focus (go_simp; constructor <;> with_reducible rfl)); (first | ((with_reducible refine (HTE.out _ (HFx.out.trans HF)).mono ?_); rintro e w' ⟨rfl, rfl⟩; refine ⟨_, rfl, FB.refl _, ?_⟩; intro a' ha'; simp only [Act.put, List.setIfInBounds_toArray, List.set_cons_zero, List.set_cons_succ] at ha'; subst ha')))
      repeat (refine sch_take (o := ?_) (v := ?_) (a' := ?_) (at_of hops.out ?_) ?_ (fun W hW => ?_) ?_ ?_; rotate_left 3; (focus (simp only [List.getElem?_toArray, List.getElem?_cons_zero, List.getElem?_cons_succ]; rfl)); (focus (rw [hops.out]; rfl)); (focus (go_simp; with_reducible rfl)); (focus (simp only [Act.put, List.setIfInBounds_toArray, List.set_cons_zero, List.set_cons_succ]; rfl)))
      refine sch_done ?_
      have HE := Lib.hid (HFx.out.trans HF)
      clear hops HF K1 K2 K3 K4 K5 K6
      go_wp2
      go_ret
      exact ⟨by rw [HRR.out]; rfl, HE.out⟩
    · have hke : (K == K') = true := by simpa using hk
      have hne : (nb n == nb n') = false := by rw [nb_beq]; simpa using hn
      have HRR := Lib.hid (show R = false from by rw [hR, decide_eq_false hn]; simp)
      clear hR hk hn
      go_enter Tryd.func15, Tryd.ntmps15
      go_wp2_with fail
      obtain ⟨W1, hW1⟩ : ∃ W1 : World, W1 = (w.alloc (.cells #[.int .i64 K, .int .u32 (nb n), .slice A x.length ca] 25)).alloc (.cells #[.int .i64 K', .int .u32 (nb n'), .slice B y.length cb] 25) := ⟨_, rfl⟩
      simp only [← hW1] at HF0 HB1 HB2 ⊢
      clear hW1
      obtain ⟨W0, hW0⟩ : ∃ W0 : World, W0 = W1 := ⟨_, rfl⟩
      rw [← hW0]
      refine region_sch (E := FB) ((0, true) :: (1, true) :: (2, true) :: (3, true) :: (4, true) :: (5, true) :: (6, true) :: (7, true) :: (8, true) :: (9, true) :: (10, true) :: (11, true) :: (12, true) :: (13, true) :: (14, true) :: (16, true) :: (17, true) :: (15, false) :: (18, false) :: (19, false) :: (20, true) :: (21, true) :: []) (by kernel_rfl) FB.refl fb_trans (fun _ _ d _ _ h => by cases d <;> exact h) (by kernel_rfl) ?_
      intro ops hops0
      have hops := Lib.hid hops0
      clear hops0
      have HF : FB W0 W0.drew := (FB.refl _).drew
      generalize W0.drew = wF at *
      have HFq := Lib.hid (show FB W1 wF from by rw [← hW0]; exact HF)
      have HFx := Lib.hid (HF0.out.trans HFq.out)
      clear hW0 HF HF0
      have K1 := Lib.hid (FB.cell HFq.out HB1.out.1)
      have K2 := Lib.hid (FB.cell HFq.out HB1.out.2.1)
      have K3 := Lib.hid (FB.cell HFq.out HB1.out.2.2)
      have K4 := Lib.hid (FB.cell HFq.out HB2.out.1)
      have K5 := Lib.hid (FB.cell HFq.out HB2.out.2.1)
      have K6 := Lib.hid (FB.cell HFq.out HB2.out.2.2)
      have HF := FB.refl wF
      repeat (first | (refine sch_take (o := ?_) (v := ?_) (a' := ?_) (at_of hops.out ?_) ?_ (fun W hW => ?_) ?_ ?_; rotate_left 3; (focus (simp only [List.getElem?_toArray, List.getElem?_cons_zero, List.getElem?_cons_succ]; rfl)); (focus (rw [hops.out]; rfl)); (focus (have u1 := FB.cell hW K1.out; have u2 := FB.cell hW K2.out; have u3 := FB.cell hW K3.out; have u4 := FB.cell hW K4.out; have u5 := FB.cell hW K5.out; have u6 := FB.cell hW K6.out; go_simp; with_reducible rfl)); (focus (simp only [Act.put, List.setIfInBounds_toArray, List.set_cons_zero, List.set_cons_succ]; rfl))) | (refine sch_skip (o := ?_) (a' := ?_) FB.refl (at_of hops.out ?_) ?_ ?_ ?_; rotate_left 2; (focus (simp only [List.getElem?_toArray, List.getElem?_cons_zero, List.getElem?_cons_succ]; rfl)); (focus (rw [hops.out]; rfl)); (focus (simp only [Act.put, List.setIfInBounds_toArray, List.set_cons_zero, List.set_cons_succ]; rfl))))
      refine sch_done ?_
      have HE := Lib.hid (HFx.out.trans HF)
      clear hops HF K1 K2 K3 K4 K5 K6
      go_wp2
      go_ret
      exact ⟨by rw [HRR.out]; rfl, HE.out⟩
  · have hke : (K == K') = false := by simpa using hk
    have HRR := Lib.hid (show R = false from by rw [hR, decide_eq_false hk]; simp)
    clear hR hk
    go_enter Tryd.func15, Tryd.ntmps15
    go_wp2_with fail
    obtain ⟨W1, hW1⟩ : ∃ W1 : World, W1 = (w.alloc (.cells #[.int .i64 K, .int .u32 (nb n), .slice A x.length ca] 25)).alloc (.cells #[.int .i64 K', .int .u32 (nb n'), .slice B y.length cb] 25) := ⟨_, rfl⟩
    simp only [← hW1] at HF0 HB1 HB2 ⊢
    clear hW1
    obtain ⟨W0, hW0⟩ : ∃ W0 : World, W0 = W1 := ⟨_, rfl⟩
    rw [← hW0]
    refine region_sch (E := FB) ((0, true) :: (1, true) :: (2, true) :: (3, true) :: (4, true) :: (5, true) :: (6, true) :: (7, true) :: (8, true) :: (9, true) :: (10, true) :: (11, true) :: (12, true) :: (13, true) :: (14, true) :: (16, true) :: (17, true) :: (15, false) :: (18, false) :: (19, false) :: (20, true) :: (21, true) :: []) (by kernel_rfl) FB.refl fb_trans (fun _ _ d _ _ h => by cases d <;> exact h) (by kernel_rfl) ?_
    intro ops hops0
    have hops := Lib.hid hops0
    clear hops0
    have HF : FB W0 W0.drew := (FB.refl _).drew
    generalize W0.drew = wF at *
    have HFq := Lib.hid (show FB W1 wF from by rw [← hW0]; exact HF)
    have HFx := Lib.hid (HF0.out.trans HFq.out)
    clear hW0 HF HF0
    have K1 := Lib.hid (FB.cell HFq.out HB1.out.1)
    have K2 := Lib.hid (FB.cell HFq.out HB1.out.2.1)
    have K3 := Lib.hid (FB.cell HFq.out HB1.out.2.2)
    have K4 := Lib.hid (FB.cell HFq.out HB2.out.1)
    have K5 := Lib.hid (FB.cell HFq.out HB2.out.2.1)
    have K6 := Lib.hid (FB.cell HFq.out HB2.out.2.2)
    have HF := FB.refl wF
    repeat (first | (refine sch_take (o := ?_) (v := ?_) (a' := ?_) (at_of hops.out ?_) ?_ (fun W hW => ?_) ?_ ?_; rotate_left 3; (focus (simp only [List.getElem?_toArray, List.getElem?_cons_zero, List.getElem?_cons_succ]; rfl)); (focus (rw [hops.out]; rfl)); (focus (have u1 := FB.cell hW K1.out; have u2 := FB.cell hW K2.out; have u3 := FB.cell hW K3.out; have u4 := FB.cell hW K4.out; have u5 := FB.cell hW K5.out; have u6 := FB.cell hW K6.out; go_simp; with_reducible rfl)); (focus (simp only [Act.put, List.setIfInBounds_toArray, List.set_cons_zero, List.set_cons_succ]; rfl))) | (refine sch_skip (o := ?_) (a' := ?_) FB.refl (at_of hops.out ?_) ?_ ?_ ?_; rotate_left 2; (focus (simp only [List.getElem?_toArray, List.getElem?_cons_zero, List.getElem?_cons_succ]; rfl)); (focus (rw [hops.out]; rfl)); (focus (simp only [Act.put, List.setIfInBounds_toArray, List.set_cons_zero, List.set_cons_succ]; rfl))))
    refine sch_done ?_
    have HE := Lib.hid (HFx.out.trans HF)
    clear hops HF K1 K2 K3 K4 K5 K6
    go_wp2
    go_ret
    exact ⟨by rw [HRR.out]; rfl, HE.out⟩
end Go.Proofs.YtihljjfnjclefaaDoor
/- page: the chapter's examples (lives). -/
set_option linter.unusedVariables false
set_option linter.unusedSimpArgs false
namespace Go.Proofs.YtihljjfnjclefaaDoor
open Go.ChangeShapes Go.WideShapes Go.ChangeAt Go.RowKit
set_option maxRecDepth 100000

def ab2 : List Byte := [97#8, 98#8]
theorem ab_ok : pgB 6 258#32 ab2 = (pgBytes 6#8 258#32 ab2, 0) := by unfold pgB; rw [if_pos (by decide)]; rfl
theorem ab_len : (pgBytes 6#8 258#32 ab2).length = 4096 := pgBytes_len _ _ (by decide)
theorem ab_read : pgR (pgBytes 6#8 258#32 ab2) = ((6, 258#32, pgPad ab2), 0) := pgR_bytes (K := 6) (n := 258#32) (x := ab2) (by decide)
theorem ab_head : (pgBytes 6#8 258#32 ab2).take 12 = [84#8, 77#8, 1#8, 6#8, 2#8, 1#8, 0#8, 0#8, 0#8, 0#8, 0#8, 0#8] := by rw [pgBytes_take]; decide
theorem ab_pad : (pgPad ab2).take 3 = [97#8, 98#8, 0#8] := by
  unfold pgPad
  rw [show 4080 - ab2.length = 4077 + 1 from by decide, List.replicate_succ]; rfl
theorem ab_padlen : (pgPad ab2).length = 4080 := pgPad_len (by decide)
theorem ab_same : pgSame 6 258#32 (pgPad ab2) 6 258#32 ab2 = true := by unfold pgSame; rw [trimz_pad]; simp
set_option maxHeartbeats 2000000 in
theorem pg_lives (w : World) : Calls Tryd.prog 9 #[] w fun e w' => e = .returned (.bool true) ∧ FB w w' := by
  have hcv := conv_const w.heap.size w #[.int .u8 97, .int .u8 98] 2 2 rfl
  obtain ⟨w1, hw1⟩ : ∃ w1, w1 = w.alloc (.cells #[.int .u8 97, .int .u8 98] 5 (2, 3)) := ⟨_, rfl⟩
  have hr1 : Rd w1 (some ⟨w.heap.size, 0, none⟩) ab2 := by rw [hw1]; exact RdV.litF w [.int .u8 97, .int .u8 98] 5 (2, 3)
  have HF1 := Lib.hid (show FB w w1 from by rw [hw1]; exact (FB.refl w).alloc _)
  have hcall := pg_Bytes 6 258#32 ab2 (some ⟨w.heap.size, 0, none⟩) 2 w1 (by decide) hr1
  rw [ab_ok, show nb (258#32) = 258 from rfl, show ab2.length = 2 from rfl] at hcall
  have HC := Lib.hid hcall
  rw [show (#[Value.int .u8 97, Value.int .u8 98] : Array Value).size = 2 from rfl, ← hw1] at hcv
  clear hcall hr1 hw1
  go_enter Tryd.func9, Tryd.ntmps9
  go_wp2_with fail
  clear hcv
  refine HC.out.mono ?_
  rintro e w2 ⟨A2, c2, rfl, ho, hb⟩
  have HF2 := Lib.hid (HF1.out.trans hb)
  simp only at ho
  obtain ⟨h1, h2, h3, -, -⟩ := Own.info ho
  rw [ab_len] at h1 ⊢
  have HRD := Lib.hid h3
  have hcz : (12 : Int) ≤ (c2 : Int) := by omega
  have hcm : (c2 : Int) ≤ 9223372036854775807 := by unfold maxLen at h2; omega
  obtain ⟨b, o, rfl, -, -⟩ := Rd.form h3 (by rw [ab_len]; omega)
  have hs1 := run_string c2 (h3.take 12)
  rw [ab_head] at hs1
  have hs2 : (convert 23 9 (.slice (some ⟨b, o, none⟩) 12 c2)).run Tryd.prog w2 = .ok (.string ⟨#[84, 77, 1, 6, 2, 1, 0, 0, 0, 0, 0, 0]⟩) w2 := hs1
  have hcr := pg_Read (pgBytes 6#8 258#32 ab2) (some ⟨b, o, none⟩) c2 w2 (by rw [ab_len]; omega) (by rw [ab_len]; exact h1) h2 h3
  rw [ab_read, ab_len] at hcr
  have HCR := Lib.hid (hcr.mono (fun e w' h => show ∃ A c, e = .returned (.tuple #[.agg #[.int .i64 6, .int .u32 258, .slice A 4080 c], .int .i64 0]) ∧ Rd w' A (pgPad ab2) ∧ 4080 ≤ c ∧ c ≤ maxLen ∧ FB w2 w' from by
    obtain ⟨A, c, h1, h2, h3, h4, h5⟩ := h
    have h1' : e = .returned (.tuple #[.agg #[.int .i64 6, .int .u32 258, .slice A (pgPad ab2).length c], .int .i64 0]) := h1
    simp only at h2 h3
    rw [ab_padlen] at h1' h3
    exact ⟨A, c, h1', h2, h3, h4, h5⟩))
  clear hcr hs1 ho hb h1 h2 h3 HC
  go_wp2_with fail
  clear hs2 hcz hcm
  refine HCR.out.mono ?_
  rintro e w3 ⟨A3, c3, rfl, hr3, hc3, hm3, hb⟩
  obtain ⟨b3, o3, rfl, -, -⟩ := Rd.form hr3 (by rw [ab_padlen]; omega)
  have hbb := hb.alloc (.cells #[.int .i64 6, .int .u32 258, .slice (some ⟨b3, o3, none⟩) 4080 c3] 25)
  have HF3 := Lib.hid (HF2.out.trans hbb)
  obtain ⟨q0, q1, q2⟩ := prow3 (heap_alloc_new w3 (.cells #[.int .i64 6, .int .u32 258, .slice (some ⟨b3, o3, none⟩) 4080 c3] 25))
  have hr4 := (FB.alloc (FB.refl w3) (.cells #[.int .i64 6, .int .u32 258, .slice (some ⟨b3, o3, none⟩) 4080 c3] 25)).rd hr3
  have hcz : (3 : Int) ≤ (c3 : Int) := by omega
  have hcm : (c3 : Int) ≤ 9223372036854775807 := by unfold maxLen at hm3; omega
  have hs1 := run_string c3 (hr4.take 3)
  rw [ab_pad] at hs1
  obtain ⟨w4, hw4⟩ : ∃ w4 : World, w4 = w3.alloc (.cells #[.int .i64 6, .int .u32 258, .slice (some ⟨b3, o3, none⟩) 4080 c3] 25) := ⟨_, rfl⟩
  have HSZ := Lib.hid (show w4.heap.size = w3.heap.size + 1 from by rw [hw4]; simp)
  rw [← hw4] at hs1 hr4 HF3 q0 q1 q2
  have hs2 : (convert 23 9 (.slice (some ⟨b3, o3, none⟩) 3 c3)).run Tryd.prog w4 = .ok (.string ⟨#[97, 98, 0]⟩) w4 := hs1
  have hcv := conv_const w4.heap.size w4 #[.int .u8 97, .int .u8 98] 2 2 rfl
  obtain ⟨w5, hw5⟩ : ∃ w5, w5 = w4.alloc (.cells #[.int .u8 97, .int .u8 98] 5 (2, 3)) := ⟨_, rfl⟩
  have hr5 : Rd w5 (some ⟨w4.heap.size, 0, none⟩) ab2 := by rw [hw5]; exact RdV.litF w4 [.int .u8 97, .int .u8 98] 5 (2, 3)
  have HF45 := Lib.hid (show FB w4 w5 from by rw [hw5]; exact (FB.refl w4).alloc _)
  rw [show (#[Value.int .u8 97, Value.int .u8 98] : Array Value).size = 2 from rfl, ← hw5] at hcv
  have hcs := pg_Same 6 6 258#32 258#32 (pgPad ab2) ab2 (some ⟨b3, o3, none⟩) (some ⟨w4.heap.size, 0, none⟩) c3 2 w5 (by rw [ab_padlen]; omega) (by decide) (by rw [ab_padlen]; exact hc3) (by decide) hm3 (by simp [maxLen]) (HF45.out.rd hr4) hr5
  rw [ab_same, ab_padlen, show nb (258#32) = 258 from rfl, show ab2.length = 2 from rfl] at hcs
  have HCS := Lib.hid hcs
  clear hcs hs1 hr4 hr5 hb hbb hr3 hc3 hm3 HCR hw5
  go_upto_region 5 with fail
  simp only [← hw4]
  clear hw4
  go_wp2_with fail
  clear hcv hs2
  refine HCS.out.mono ?_
  rintro e w6 ⟨rfl, hb⟩
  have HE := Lib.hid ((HF3.out.trans HF45.out).trans hb)
  clear hb
  go_wp2
  go_ret
  exact ⟨rfl, HE.out⟩
end Go.Proofs.YtihljjfnjclefaaDoor
/- A map whose keys are ints, as the heap holds it: look-up, store, clear. -/
set_option linter.unusedVariables false
set_option linter.unusedSimpArgs false
namespace Go.Proofs.YtihljjfnjclefaaDoor
open Go.ChangeShapes Go.WideShapes Go.ChangeAt Go.RowKit Go.MapKept

def mget : List (Int × Value) → Int → Option Value
  | [], _ => none
  | (k', v) :: M, k => if k' = k then some v else mget M k
def mput : List (Int × Value) → Int → Value → List (Int × Value)
  | [], k, v => [(k, v)]
  | (k', v') :: M, k, v => if k' = k then (k, v) :: M else (k', v') :: mput M k v
/-- Block m is a map with these entries. -/
def MapAt (w : World) (m : Nat) (M : List (Int × Value)) : Prop :=
  ∃ es clock, w.heap[m]? = some (.map es clock) ∧ es.toList.map (fun e => (e.key, e.val)) = M.map (fun p => (Value.int .i64 p.1, p.2)) ∧ (∀ e ∈ es.toList, e.born < clock) ∧ (es.toList.map (·.born)).Nodup ∧ (M.map (·.1)).Nodup
theorem MapAt.lt {w : World} {m : Nat} {M : List (Int × Value)} (h : MapAt w m M) : m < w.heap.size := by
  obtain ⟨es, clock, h1, -⟩ := h
  exact (Array.getElem?_eq_some_iff.1 h1).1
theorem MapAt.block {w w' : World} {m : Nat} {M : List (Int × Value)} (h : MapAt w m M) (hb : w'.heap[m]? = w.heap[m]?) : MapAt w' m M := by
  obtain ⟨es, clock, h1, h2⟩ := h
  exact ⟨es, clock, hb.trans h1, h2⟩
theorem MapAt.new (w : World) : MapAt (w.alloc (.map #[] 0)) w.heap.size [] := ⟨#[], 0, heap_alloc_new _ _, rfl, by simp, by simp, by simp⟩
theorem isKey_all {es : List MapEntry} {M : List (Int × Value)} (h : es.map (fun e => (e.key, e.val)) = M.map (fun p => (Value.int .i64 p.1, p.2))) : ∀ x ∈ es, IsKey (.int .i64) x.key := by
  intro x hx
  have : (x.key, x.val) ∈ M.map (fun p => (Value.int .i64 p.1, p.2)) := by rw [← h]; exact List.mem_map.2 ⟨x, hx, rfl⟩
  obtain ⟨p, -, hp⟩ := List.mem_map.1 this
  simp only [Prod.mk.injEq] at hp
  rw [← hp.1]; rfl
theorem mget_none {es : List MapEntry} {k : Int} : ∀ {M : List (Int × Value)}, es.map (fun e => (e.key, e.val)) = M.map (fun p => (Value.int .i64 p.1, p.2)) → (∀ x ∈ es, x.key ≠ .int .i64 k) → mget M k = none ∧ ∀ v, mput M k v = M ++ [(k, v)] := by
  induction es with
  | nil => intro M h _; cases M with
    | nil => exact ⟨rfl, fun v => rfl⟩
    | cons p M => simp at h
  | cons e es ih => intro M h hne; cases M with
    | nil => simp at h
    | cons p M =>
      simp only [List.map_cons, List.cons.injEq, Prod.mk.injEq] at h
      obtain ⟨⟨hk, hv⟩, ht⟩ := h
      have h1 := ih ht (fun x hx => hne x (List.mem_cons_of_mem _ hx))
      have h0 : p.1 ≠ k := fun e0 => hne e (List.mem_cons_self) (by rw [hk, e0])
      obtain ⟨pk, pv⟩ := p
      exact ⟨by rw [mget, if_neg h0]; exact h1.1, fun v => by rw [mput, if_neg h0, h1.2]; rfl⟩
theorem mget_some {es : List MapEntry} {k : Int} {e0 : MapEntry} : ∀ {j : Nat} {M : List (Int × Value)}, es.map (fun e => (e.key, e.val)) = M.map (fun p => (Value.int .i64 p.1, p.2)) → (M.map (·.1)).Nodup → es[j]? = some e0 → e0.key = .int .i64 k →
    mget M k = some e0.val ∧ ∀ v, (es.modify j fun e => { e with key := .int .i64 k, val := v }).map (fun e => (e.key, e.val)) = (mput M k v).map (fun p => (Value.int .i64 p.1, p.2)) := by
  induction es with
  | nil => intro j M h hn hj; simp at hj
  | cons e es ih => intro j M h hn hj hk; cases M with
    | nil => simp at h
    | cons p M =>
      obtain ⟨pk, pv⟩ := p
      simp only [List.map_cons, List.cons.injEq, Prod.mk.injEq, List.nodup_cons] at h hn
      obtain ⟨⟨hk1, hv1⟩, ht⟩ := h
      cases j with
      | zero =>
        simp only [List.getElem?_cons_zero, Option.some.injEq] at hj
        subst hj
        have : pk = k := by rw [hk] at hk1; cases hk1; rfl
        subst this
        refine ⟨by rw [mget, if_pos rfl, hv1], fun v => ?_⟩
        rw [mput, if_pos rfl]
        simp [ht]
      | succ j =>
        simp only [List.getElem?_cons_succ] at hj
        have h1 := ih ht hn.2 hj hk
        have h0 : pk ≠ k := by
          intro e0'
          have : (e0.key, e0.val) ∈ M.map (fun p => (Value.int .i64 p.1, p.2)) := by rw [← ht]; exact List.mem_map.2 ⟨e0, List.mem_of_getElem? hj, rfl⟩
          obtain ⟨q, hq, hq2⟩ := List.mem_map.1 this
          simp only [Prod.mk.injEq] at hq2
          rw [hk] at hq2
          injection hq2.1 with _ e1
          exact hn.1 (List.mem_map.2 ⟨q, hq, by rw [e1, e0']⟩)
        refine ⟨by rw [mget, if_neg h0]; exact h1.1, fun v => ?_⟩
        rw [mput, if_neg h0]
        simp only [List.modify_succ_cons, List.map_cons, List.cons.injEq, Prod.mk.injEq]
        exact ⟨⟨hk1, hv1⟩, h1.2 v⟩
section
variable {P : Program} {t k e : TypeId} (ht : P.underlying t = some (.map k e)) (hk : P.underlying k = some (.int .i64))
include ht hk
theorem map_lookup {w : World} {m : Nat} {M : List (Int × Value)} {z : Value} (h : MapAt w m M) (x : Int) (ok : Bool) (hz : (zeroValue e).run P w = .ok z w) :
    (Instr.lookup t (.map (some m)) (.int .i64 x) ok).run P w = .ok (if ok then .tuple #[(mget M x).getD z, .bool (mget M x).isSome] else (mget M x).getD z) w := by
  obtain ⟨es, clock, h1, h2, h3, h4, h5⟩ := h
  have hkey : IsKey (.int .i64) (.int .i64 x) := rfl
  rcases findNow_spec hkey es.toList 0 (isKey_all h2) with ⟨f1, f2⟩ | ⟨j, e0, f1, f2, f3⟩
  · have hm := (mget_none h2 f2).1
    rw [hm]
    cases ok <;> simp [Instr.lookup, run_underlying ht, MapKept.run_getObj_map h1, run_checkKey hk hkey, run_findKey hk f1, hz, Result.andThen]
  · have hm := (mget_some h2 h5 f2 f3).1
    rw [hm]
    cases ok <;> simp [Instr.lookup, run_underlying ht, MapKept.run_getObj_map h1, run_checkKey hk hkey, run_findKey hk f1, Result.andThen]
theorem map_update {w : World} {m : Nat} {M : List (Int × Value)} (h : MapAt w m M) (x : Int) (v : Value) :
    ∃ w', (Instr.mapUpdate t (.map (some m)) (.int .i64 x) v).run P w = .ok () w' ∧ MapAt w' m (mput M x v) ∧ TB m w w' := by
  obtain ⟨es, clock, h1, h2, h3, h4, h5⟩ := h
  have hkey : IsKey (.int .i64) (.int .i64 x) := rfl
  have htb : ∀ o, TB m w { w with heap := w.heap.setIfInBounds m o } := fun o => ⟨rfl, rfl, rfl, by simp, fun k _ hk => by simp [show ¬ m = k from fun e => hk (by simp [e])]⟩
  have hlt := (Array.getElem?_eq_some_iff.1 h1).1
  rcases findNow_spec hkey es.toList 0 (isKey_all h2) with ⟨f1, f2⟩ | ⟨j, e0, f1, f2, f3⟩
  · have hm := (mget_none h2 f2).2 v
    have hm0 := (mget_none h2 f2).1
    refine ⟨_, by simp [Instr.mapUpdate, run_underlying ht, MapKept.run_getObj_map h1, run_checkKey hk hkey, run_findKey hk f1, MapKept.run_setObj_map _ h1, Result.andThen]; rfl, ⟨es.push ⟨.int .i64 x, v, clock⟩, clock + 1, by simp [hlt], ?_, ?_, ?_, ?_⟩, htb _⟩
    · rw [hm]; simp [h2]
    · intro e he
      simp only [Array.toList_push, List.mem_append, List.mem_singleton] at he
      rcases he with he | rfl
      · have := h3 e he; omega
      · simp
    · rw [Array.toList_push, List.map_append, List.nodup_append]
      refine ⟨h4, by simp, ?_⟩
      intro a ha b hb
      obtain ⟨e, he, rfl⟩ := List.mem_map.1 ha
      simp only [List.map_cons, List.map_nil, List.mem_singleton] at hb
      have := h3 e he
      omega
    · rw [hm, List.map_append, List.nodup_append]
      refine ⟨h5, by simp, ?_⟩
      intro a ha b hb
      simp only [List.map_cons, List.map_nil, List.mem_singleton] at hb
      subst hb
      rintro rfl
      obtain ⟨p, hp, hp1⟩ := List.mem_map.1 ha
      have : (Value.int .i64 p.1, p.2) ∈ es.toList.map (fun e => (e.key, e.val)) := by rw [h2]; exact List.mem_map.2 ⟨p, hp, rfl⟩
      obtain ⟨e, he, he2⟩ := List.mem_map.1 this
      simp only [Prod.mk.injEq] at he2
      exact f2 e he (by rw [he2.1, hp1])
  · have hm := (mget_some h2 h5 f2 f3).2 v
    have hj : es[j]? = some e0 := by simpa using f2
    refine ⟨_, by simp [Instr.mapUpdate, run_underlying ht, MapKept.run_getObj_map h1, run_checkKey hk hkey, run_findKey hk f1, hj, f3, run_keyThatStays hkey, MapKept.run_setObj_map _ h1, Result.andThen]; rfl, ⟨es.modify j (fun e' => { e' with key := .int .i64 x, val := v }), clock, by simp [hlt], ?_, ?_, ?_, ?_⟩, htb _⟩
    · rw [← hm, Array.toList_modify]
    · intro e he
      rcases MapFrom.mem_modify he with he | ⟨e', he', rfl⟩
      · exact h3 e he
      · exact h3 e' (List.mem_of_getElem? (by simpa using he'))
    · have : (es.modify j (fun e' => { e' with key := .int .i64 x, val := v })).toList.map (·.born) = es.toList.map (·.born) := by
        rw [Array.toList_modify]
        apply List.ext_getElem?
        intro i
        simp only [List.getElem?_map, List.getElem?_modify]
        split
        · cases es.toList[i]? <;> rfl
        · simp
      rw [this]; exact h4
    · have : (mput M x v).map (·.1) = M.map (·.1) := by
        have hs := (mget_some h2 h5 f2 f3).1
        clear hm h2 h5 htb
        revert hs
        generalize e0.val = q
        induction M with
        | nil => intro hs; cases hs
        | cons p M ih =>
          obtain ⟨pk, pv⟩ := p
          intro hs
          rw [mget] at hs
          rw [mput]
          by_cases h0 : pk = x
          · rw [if_pos h0]; simp [h0]
          · rw [if_neg h0] at hs ⊢
            simp [ih hs]
      rw [this]; exact h5
end
theorem map_clear {P : Program} {t k e : TypeId} (ht : P.underlying t = some (.map k e)) {w : World} {m : Nat} {M : List (Int × Value)} (h : MapAt w m M) (ty : TypeId) :
    ∃ w', (Builtin.clear_ #[t] ty #[.map (some m)]).run P w = .ok (.tuple #[]) w' ∧ MapAt w' m [] ∧ TB m w w' := by
  obtain ⟨es, clock, h1, h2, h3, h4, h5⟩ := h
  have hlt := (Array.getElem?_eq_some_iff.1 h1).1
  refine ⟨{ w with heap := w.heap.setIfInBounds m (.map #[] clock) }, by simp [Builtin.clear_, run_underlying ht, MapKept.run_getObj_map h1, MapKept.run_setObj_map _ h1, Result.andThen], ⟨#[], clock, by simp [hlt], rfl, by simp, by simp, by simp⟩, ⟨rfl, rfl, rfl, by simp, fun k _ hk => by simp [show ¬ m = k from fun e => hk (by simp [e])]⟩⟩
end Go.Proofs.YtihljjfnjclefaaDoor
/- A disk: its blocks; what may turn; the walks through made, Sectors, fails. -/
set_option linter.unusedVariables false
set_option linter.unusedSimpArgs false
namespace Go.Proofs.YtihljjfnjclefaaDoor
open Go.ChangeShapes Go.WideShapes Go.ChangeAt Go.RowKit Go.MapKept

theorem MapAt.ts {F : List Nat} {w w' : World} {m : Nat} {M : List (Int × Value)} (h : MapAt w m M) (k : TS F w w') (hm : m ∉ F) : MapAt w' m M := h.block (k.block m h.lt hm)
theorem row4 {W : World} {g : Nat} {a b c d : Value} {t : TypeId} {fr : Nat × Nat} (h : W.heap[g]? = some (.cells #[a, b, c, d] t fr)) :
    W.cell? ⟨g, 0, none⟩ = some a ∧ W.cell? ⟨g, 1, none⟩ = some b ∧ W.cell? ⟨g, 2, none⟩ = some c ∧ W.cell? ⟨g, 3, none⟩ = some d := by
  refine ⟨?_, ?_, ?_, ?_⟩ <;> (rw [cell_of_row _ _ _ _ _ _ h]; rfl)

/-- The cached bytes, each in a row that nothing else of the disk lies in. -/
inductive Vals (w : World) (F ctl : List Nat) : List (Int × Value) → List (Int × List Byte) → Prop
  | nil : Vals w F ctl [] []
  | cons {k : Int} {A : Option Addr} {c : Nat} {x : List Byte} {V : List (Int × Value)} {M : List (Int × List Byte)} (hr : Rd w A x) (h1 : x.length ≤ c) (h2 : c ≤ maxLen) (hb : ∀ ad, A = some ad → ad.block ∈ F ∧ ad.block ∉ ctl) (ht : Vals w F ctl V M) : Vals w F ctl ((k, .slice A x.length c) :: V) ((k, x) :: M)
theorem Vals.move {w w' : World} {F F' ctl ctl' : List Nat} {V : List (Int × Value)} {M : List (Int × List Byte)} (h : Vals w F ctl V M) (hr : ∀ A x, Rd w A x → (∀ ad, A = some ad → ad.block ∈ F ∧ ad.block ∉ ctl) → Rd w' A x) (hb : ∀ b, b ∈ F → b ∉ ctl → b ∈ F' ∧ b ∉ ctl') : Vals w' F' ctl' V M := by
  induction h with
  | nil => exact .nil
  | cons k1 h1 h2 k2 ht ih => exact .cons (hr _ _ k1 k2) h1 h2 (fun ad ha => hb _ (k2 ad ha).1 (k2 ad ha).2) ih
theorem Vals.keys {w : World} {F ctl : List Nat} {V : List (Int × Value)} {M : List (Int × List Byte)} (h : Vals w F ctl V M) : V.map (·.1) = M.map (·.1) := by
  induction h with
  | nil => rfl
  | cons k1 h1 h2 k2 ht ih => simp [ih]
/-- The bytes cached for a sector. -/
def cget : List (Int × List Byte) → Int → Option (List Byte)
  | [], _ => none
  | (k', v) :: M, k => if k' = k then some v else cget M k
def cput : List (Int × List Byte) → Int → List Byte → List (Int × List Byte)
  | [], k, v => [(k, v)]
  | (k', v') :: M, k, v => if k' = k then (k, v) :: M else (k', v') :: cput M k v
theorem Vals.get {w : World} {F ctl : List Nat} {V : List (Int × Value)} {M : List (Int × List Byte)} (h : Vals w F ctl V M) (k : Int) :
    (mget V k = none ∧ cget M k = none) ∨ ∃ A c x, mget V k = some (.slice A x.length c) ∧ cget M k = some x ∧ Rd w A x ∧ x.length ≤ c ∧ c ≤ maxLen ∧ ∀ ad, A = some ad → ad.block ∈ F ∧ ad.block ∉ ctl := by
  induction h with
  | nil => exact .inl ⟨rfl, rfl⟩
  | @cons k' A c x V M hr h1 h2 hb ht ih =>
    rw [mget, cget]
    by_cases h0 : k' = k
    · rw [if_pos h0, if_pos h0]; exact .inr ⟨A, c, x, rfl, rfl, hr, h1, h2, hb⟩
    · rw [if_neg h0, if_neg h0]; exact ih
theorem Vals.put {w : World} {F ctl : List Nat} {V : List (Int × Value)} {M : List (Int × List Byte)} (h : Vals w F ctl V M) (k : Int) {A : Option Addr} {c : Nat} {x : List Byte} (hr : Rd w A x) (h1 : x.length ≤ c) (h2 : c ≤ maxLen) (hb : ∀ ad, A = some ad → ad.block ∈ F ∧ ad.block ∉ ctl) :
    Vals w F ctl (mput V k (.slice A x.length c)) (cput M k x) := by
  induction h with
  | nil => exact .cons hr h1 h2 hb .nil
  | @cons k' A' c' x' V M hr' h1' h2' hb' ht ih =>
    rw [mput, cput]
    by_cases h0 : k' = k
    · rw [if_pos h0, if_pos h0]; exact .cons hr h1 h2 hb ht
    · rw [if_neg h0, if_neg h0]; exact .cons hr' h1' h2' hb' ih
/-- What a disk holds: its bytes, its cache in order, how many operations it does ahead of the one that fails. -/
structure DiskSt where
  b : List Byte
  M : List (Int × List Byte)
  fuse : Option Int
/-- May it be? (so many sectors) -/
structure DiskSt.ok (D : DiskSt) (n : Nat) : Prop where
  len : D.b.length = 512 * n
  n1 : 1 ≤ n
  n2 : n ≤ 32768
  M : ∀ p ∈ D.M, 0 ≤ p.1 ∧ p.1 < n ∧ p.2.length = 512
  f : ∀ z, D.fuse = some z → 0 ≤ z ∧ z ≤ 9223372036854775807
def optBlk (O : Option Addr) : List Nat := O.toList.map (·.block)
/-- The fuse's block, and what it holds. -/
def FuseAt (w : World) (L : Option Nat) (f : Option Int) : Prop := match L, f with | none, none => True | some l, some z => w.heap[l]? = some (.cells #[.int .i64 z] 3 (0, 0)) | _, _ => False
/-- A disk at block g, which owns the blocks F. -/
def Dsk (w : World) (F : List Nat) (g n : Nat) (D : DiskSt) : Prop :=
  ∃ (gb c gm : Nat) (O : Option Addr) (oc : Nat) (L : Option Nat) (V : List (Int × Value)),
    w.heap[g]? = some (.cells #[.slice (some ⟨gb, 0, none⟩) (512 * n) c, .map (some gm), .slice O D.M.length oc, .pointer (L.map fun l => ⟨l, 0, none⟩)] 77 (0, 0)) ∧
    Own w 0 (.slice (some ⟨gb, 0, none⟩) (512 * n) c) D.b ∧ MapAt w gm V ∧ Vals w F ([g, gb, gm] ++ (optBlk O ++ L.toList)) V D.M ∧
    OwnV 3 w 0 (.slice O D.M.length oc) (D.M.map fun p => .int .i64 p.1) ∧
    FuseAt w L D.fuse ∧
    ([g, gb, gm] ++ (optBlk O ++ L.toList)).Nodup ∧ (∀ x ∈ [g, gb, gm] ++ (optBlk O ++ L.toList), x ∈ F) ∧ D.ok n ∧ ∀ x ∈ F, x < w.heap.size
end Go.Proofs.YtihljjfnjclefaaDoor
/- A disk: the walks through made, Sectors, fails, Fail. -/
set_option linter.unusedVariables false
set_option linter.unusedSimpArgs false
namespace Go.Proofs.YtihljjfnjclefaaDoor
open Go.ChangeShapes Go.WideShapes Go.ChangeAt Go.RowKit Go.MapKept

/-- Something else has turned. -/
theorem Dsk.ts {w w' : World} {F F' : List Nat} {g n : Nat} {D : DiskSt} (h : Dsk w F g n D) (k : TS F' w w') (hd : ∀ x ∈ F', x ∉ F) : Dsk w' F g n D := by
  obtain ⟨gb, c, gm, O, oc, L, V, h1, h2, h3, h4, h5, h6, h7, h8, h9, h10⟩ := h
  have hn : ∀ x ∈ [g, gb, gm] ++ (optBlk O ++ L.toList), x ∉ F' := fun x hx hf => hd x hf (h8 x hx)
  refine ⟨gb, c, gm, O, oc, L, V, ?_, ?_, ?_, ?_, ?_, ?_, h7, h8, h9, fun x hx => Nat.lt_of_lt_of_le (h10 x hx) k.size⟩
  · rw [k.block g (Array.getElem?_eq_some_iff.1 h1).1 (hn g (by simp))]; exact h1
  · exact k.ownV h2 (fun b hb => by cases hb; exact hn gb (by simp))
  · exact h3.ts k (hn gm (by simp))
  · exact h4.move (fun A x hr hb => k.rd hr (fun ad ha hf => hd _ hf (hb ad ha).1)) (fun b h h' => ⟨h, h'⟩)
  · exact k.ownV h5 (fun b hb => by
      cases O with
      | none => cases hb
      | some ad => cases hb; exact hn _ (by simp [optBlk]))
  · unfold FuseAt at *
    revert h6
    generalize D.fuse = fz
    intro h6
    cases L with
    | none => cases fz with
      | none => trivial
      | some z => exact h6
    | some l => cases fz with
      | none => exact h6
      | some z =>
        simp only at h6 ⊢
        rw [k.block l (Array.getElem?_eq_some_iff.1 h6).1 (hn l (by simp))]; exact h6
theorem Dsk.fb {w w' : World} {F : List Nat} {g n : Nat} {D : DiskSt} (h : Dsk w F g n D) (k : FB w w') : Dsk w' F g n D := h.ts (F' := []) (TS.of k) (by simp)
theorem Dsk.lt {w : World} {F : List Nat} {g n : Nat} {D : DiskSt} (h : Dsk w F g n D) : ∀ x ∈ F, x < w.heap.size := by
  obtain ⟨gb, c, gm, O, oc, L, V, h1, h2, h3, h4, h5, h6, h7, h8, h9, h10⟩ := h
  exact h10
theorem Dsk.mem {w : World} {F : List Nat} {g n : Nat} {D : DiskSt} (h : Dsk w F g n D) : g ∈ F := by
  obtain ⟨gb, c, gm, O, oc, L, V, h1, h2, h3, h4, h5, h6, h7, h8, h9, h10⟩ := h
  exact h8 g (by simp)
theorem Dsk.ok {w : World} {F : List Nat} {g n : Nat} {D : DiskSt} (h : Dsk w F g n D) : D.ok n := by
  obtain ⟨gb, c, gm, O, oc, L, V, h1, h2, h3, h4, h5, h6, h7, h8, h9, h10⟩ := h
  exact h9
/-- The fuse: none; or a block of its own, which may be written. -/
theorem Dsk.fuse_cases {w : World} {F : List Nat} {g n : Nat} {D : DiskSt} (h : Dsk w F g n D) :
    (D.fuse = none ∧ w.cell? ⟨g, 3, none⟩ = some (.pointer none)) ∨
    ∃ l z, D.fuse = some z ∧ 0 ≤ z ∧ z ≤ 9223372036854775807 ∧ w.cell? ⟨g, 3, none⟩ = some (.pointer (some ⟨l, 0, none⟩)) ∧ w.cell? ⟨l, 0, none⟩ = some (.int .i64 z) ∧ w.frozen? ⟨l, 0, none⟩ = false ∧
      ∀ z', 0 ≤ z' ∧ z' ≤ 9223372036854775807 → Dsk (w.setCell ⟨l, 0, none⟩ (.int .i64 z')) F g n { D with fuse := some z' } ∧ TS F w (w.setCell ⟨l, 0, none⟩ (.int .i64 z')) := by
  obtain ⟨gb, c, gm, O, oc, L, V, h1, h2, h3, h4, h5, h6, h7, h8, h9, h10⟩ := h
  obtain ⟨q0, q1, q2, q3⟩ := row4 h1
  unfold FuseAt at h6
  cases L with
  | none =>
    left
    refine ⟨?_, q3⟩
    cases hf : D.fuse with
    | none => rfl
    | some z => rw [hf] at h6; exact absurd h6 (by simp)
  | some l =>
    right
    cases hf : D.fuse with
    | none => rw [hf] at h6; exact absurd h6 (by simp)
    | some z =>
      rw [hf] at h6
      simp only at h6
      have hz := h9.f z hf
      refine ⟨l, z, rfl, hz.1, hz.2, q3, by rw [cell_of_row _ _ _ _ _ _ h6]; rfl, frozen_row _ h6 0, fun z' hz' => ?_⟩
      have htb : TB l w (w.setCell ⟨l, 0, none⟩ (.int .i64 z')) := TB.set w 0 _
      have hts : TS [l] w (w.setCell ⟨l, 0, none⟩ (.int .i64 z')) := TS.tb htb (by simp)
      have hne : ∀ x ∈ [g, gb, gm] ++ optBlk O, x ∉ [l] := by
        intro x hx hl
        simp only [List.mem_singleton] at hl
        subst hl
        rw [← List.append_assoc, List.nodup_append] at h7
        exact h7.2.2 x hx x (by simp) rfl
      refine ⟨⟨gb, c, gm, O, oc, some l, V, ?_, ?_, ?_, ?_, ?_, ?_, h7, h8, ?_, fun x hx => by simpa using h10 x hx⟩, TS.tb htb (h8 l (by simp))⟩
      · rw [hts.block g (Array.getElem?_eq_some_iff.1 h1).1 (hne g (by simp))]; exact h1
      · exact hts.ownV h2 (fun b hb => by cases hb; exact hne gb (by simp))
      · exact h3.ts hts (hne gm (by simp))
      · exact h4.move (fun A x hr hb => hts.rd hr (fun ad ha hf => (hb ad ha).2 (by simp at hf; rw [hf]; simp))) (fun b h h' => ⟨h, h'⟩)
      · exact hts.ownV h5 (fun b hb => by
          cases O with
          | none => cases hb
          | some ad => cases hb; exact hne _ (by simp [optBlk]))
      · unfold FuseAt
        simp only
        rw [heap_setCell_same _ _ _ _ _ _ h6]; rfl
      · exact ⟨h9.len, h9.n1, h9.n2, h9.M, fun z'' hz'' => by cases hz''; exact hz'⟩
/-- The fuse taken away. -/
theorem Dsk.unfuse {w : World} {F : List Nat} {g n : Nat} {D : DiskSt} (h : Dsk w F g n D) :
    w.frozen? ⟨g, 3, none⟩ = false ∧ (∃ p, w.cell? ⟨g, 3, none⟩ = some (.pointer p)) ∧ Dsk (w.setCell ⟨g, 3, none⟩ (.pointer none)) F g n { D with fuse := none } ∧ TS F w (w.setCell ⟨g, 3, none⟩ (.pointer none)) := by
  obtain ⟨gb, c, gm, O, oc, L, V, h1, h2, h3, h4, h5, h6, h7, h8, h9, h10⟩ := h
  obtain ⟨q0, q1, q2, q3⟩ := row4 h1
  have hts : TS [g] w (w.setCell ⟨g, 3, none⟩ (.pointer none)) := TS.tb (TB.set w 3 _) (by simp)
  have hsub : ([g, gb, gm] ++ (optBlk O ++ ([] : List Nat))).Sublist ([g, gb, gm] ++ (optBlk O ++ L.toList)) := List.Sublist.append_left (List.Sublist.append_left (List.nil_sublist _) _) _
  have hne : ∀ x ∈ [gb, gm] ++ (optBlk O ++ L.toList), x ∉ [g] := by
    intro x hx hl
    simp only [List.mem_singleton] at hl
    subst hl
    simp only [List.cons_append, List.nil_append, List.nodup_cons] at h7
    exact h7.1 (by simpa using hx)
  refine ⟨frozen_row _ h1 3, ⟨_, q3⟩, ⟨gb, c, gm, O, oc, none, V, ?_, ?_, ?_, ?_, ?_, trivial, h7.sublist hsub, fun x hx => h8 x (hsub.subset hx), ⟨h9.len, h9.n1, h9.n2, h9.M, fun z hz => by cases hz⟩, fun x hx => by simpa using h10 x hx⟩, TS.tb (TB.set w 3 _) (h8 g (by simp))⟩
  · rw [heap_setCell_same _ _ _ _ _ _ h1]; rfl
  · exact hts.ownV h2 (fun b hb => by cases hb; exact hne gb (by simp))
  · exact h3.ts hts (hne gm (by simp))
  · exact h4.move (fun A x hr hb => hts.rd hr (fun ad ha hf => (hb ad ha).2 (by simp at hf; rw [hf]; simp))) (fun b h h' => ⟨h, fun hm => h' (hsub.subset hm)⟩)
  · exact hts.ownV h5 (fun b hb => by
      cases O with
      | none => cases hb
      | some ad => cases hb; exact hne _ (by simp [optBlk]))
/-- What a walk is given of it. -/
theorem Dsk.cells {w : World} {F : List Nat} {g n : Nat} {D : DiskSt} (h : Dsk w F g n D) : ∃ (gb c gm : Nat) (O : Option Addr) (oc : Nat) (L : Option Nat),
    w.cell? ⟨g, 0, none⟩ = some (.slice (some ⟨gb, 0, none⟩) (512 * n) c) ∧ w.cell? ⟨g, 1, none⟩ = some (.map (some gm)) ∧ w.cell? ⟨g, 2, none⟩ = some (.slice O D.M.length oc) ∧ w.cell? ⟨g, 3, none⟩ = some (.pointer (L.map fun l => ⟨l, 0, none⟩)) ∧
    w.frozen? ⟨g, 2, none⟩ = false ∧ w.frozen? ⟨g, 3, none⟩ = false ∧ 1 ≤ n ∧ n ≤ 32768 := by
  obtain ⟨gb, c, gm, O, oc, L, V, h1, h2, h3, h4, h5, h6, h7, h8, h9, h10⟩ := h
  obtain ⟨q0, q1, q2, q3⟩ := row4 h1
  exact ⟨gb, c, gm, O, oc, L, q0, q1, q2, q3, frozen_row _ h1 _, frozen_row _ h1 _, h9.n1, h9.n2⟩
set_option maxRecDepth 100000 in
set_option maxHeartbeats 400000 in
theorem dsk_made {w : World} {F : List Nat} {g n : Nat} {D : DiskSt} (h : Dsk w F g n D) :
    Calls Tryd.prog 53 #[.pointer (some ⟨g, 0, none⟩)] w fun e w' => e = .returned (.bool true) ∧ w = w' := by
  obtain ⟨gb, c, gm, O, oc, L, q0, q1, q2, q3, f2, f3, hn1, hn2⟩ := h.cells
  have hnil : ∀ W, (binOp .neq 74 (.map (some gm)) (.map none)).run Tryd.prog W = .ok (.bool true) W := fun W => run_neq_map_nil W 74 _ _ (some gm) Tryd.underlying74
  clear h
  go_enter Tryd.func53, Tryd.ntmps53
  go_wp2
  go_ret
  exact ⟨rfl, rfl⟩
set_option maxRecDepth 100000 in
set_option maxHeartbeats 400000 in
theorem dsk_Sectors {w : World} {F : List Nat} {g n : Nat} {D : DiskSt} (h : Dsk w F g n D) :
    Calls Tryd.prog 52 #[.pointer (some ⟨g, 0, none⟩)] w fun e w' => e = .returned (.int .i64 (n : Int)) ∧ w = w' := by
  obtain ⟨gb, c, gm, O, oc, L, q0, q1, q2, q3, f2, f3, hn1, hn2⟩ := h.cells
  have H := Lib.hid h
  have hq : ((512 * n : Nat) : Int).tdiv 512 = (n : Int) := by rw [Int.tdiv_eq_ediv_of_nonneg (by omega)]; omega
  have hq2 : (512 * (n : Int)).tdiv 512 = (n : Int) := by rw [Int.tdiv_eq_ediv_of_nonneg (by omega)]; omega
  clear h
  go_enter Tryd.func52, Tryd.ntmps52
  go_wp2_with fail
  refine (dsk_made H.out).mono ?_
  rintro e w1 ⟨rfl, rfl⟩
  go_wp2
  go_ret
  refine ⟨?_, rfl⟩
  first | rfl | (congr 2)
/-- Does the operation fail; and what is left of the fuse. -/
def ffail : Option Int → Bool × Option Int
  | none => (false, none)
  | some z => if 0 < z then (false, some (z - 1)) else (true, none)
set_option maxRecDepth 100000 in
set_option maxHeartbeats 1000000 in
theorem dsk_fails {w : World} {F : List Nat} {g n : Nat} {D : DiskSt} (h : Dsk w F g n D) :
    Calls Tryd.prog 54 #[.pointer (some ⟨g, 0, none⟩)] w fun e w' => e = .returned (.bool (ffail D.fuse).1) ∧ Dsk w' F g n { D with fuse := (ffail D.fuse).2 } ∧ TS F w w' := by
  have H := Lib.hid h
  rcases h.fuse_cases with ⟨hf, q3⟩ | ⟨l, z, hf, hz0, hz1, q3, q4, f4, hset⟩
  · have hD : ({ D with fuse := (ffail none).2 } : DiskSt) = D := by
      cases D; simp only [ffail] at hf ⊢; rw [← hf]
    rw [hf, hD]
    have HH := Lib.hid H.out
    clear hf hD h H
    go_enter Tryd.func54, Tryd.ntmps54
    go_wp2
    go_ret
    exact ⟨rfl, HH.out, TS.refl _ _⟩
  · by_cases hp : 0 < z
    · have hS := hset (z - 1) (by omega)
      have HS := Lib.hid hS
      have hw1 : IntKind.i64.wrap (z - 1) = z - 1 := by rw [IntKind.wrap_i64]; omega
      rw [hf, ffail, if_pos hp]
      clear hset hS h hf
      go_enter Tryd.func54, Tryd.ntmps54
      go_wp2
      go_ret
      exact ⟨rfl, HS.out.1, HS.out.2⟩
    · obtain ⟨f3, -, hu1, hu2⟩ := h.unfuse
      have HS := Lib.hid (And.intro hu1 hu2)
      rw [hf, ffail, if_neg hp]
      clear hset hu1 hu2 h hf
      go_enter Tryd.func54, Tryd.ntmps54
      go_wp2
      go_ret
      exact ⟨rfl, HS.out.1, HS.out.2⟩
/-- A fuse laid in. -/
theorem Dsk.light {w : World} {F : List Nat} {g n : Nat} {D : DiskSt} (h : Dsk w F g n D) (hf : D.fuse = none) (l : Nat) (z : Int) (hl : w.heap[l]? = some (.cells #[.int .i64 z] 3 (0, 0))) (hn : l ∉ F) (hz : 0 ≤ z ∧ z ≤ 9223372036854775807) :
    Dsk (w.setCell ⟨g, 3, none⟩ (.pointer (some ⟨l, 0, none⟩))) (l :: F) g n { D with fuse := some z } ∧ TS F w (w.setCell ⟨g, 3, none⟩ (.pointer (some ⟨l, 0, none⟩))) := by
  obtain ⟨gb, c, gm, O, oc, L, V, h1, h2, h3, h4, h5, h6, h7, h8, h9, h10⟩ := h
  unfold FuseAt at h6
  cases L with
  | some l' => rw [hf] at h6; exact absurd h6 (by simp)
  | none =>
    have hts : TS [g] w (w.setCell ⟨g, 3, none⟩ (.pointer (some ⟨l, 0, none⟩))) := TS.tb (TB.set w 3 _) (by simp)
    have hlc : ∀ x ∈ [g, gb, gm] ++ (optBlk O ++ ([] : List Nat)), x ≠ l := fun x hx e => hn (e ▸ h8 x (by simpa using hx))
    have hne : ∀ x ∈ [gb, gm] ++ optBlk O, x ∉ [g] := by
      intro x hx hl
      simp only [List.mem_singleton] at hl
      subst hl
      simp only [List.cons_append, List.nil_append, List.nodup_cons] at h7
      exact h7.1 (by simpa using hx)
    refine ⟨⟨gb, c, gm, O, oc, some l, V, ?_, ?_, ?_, ?_, ?_, ?_, ?_, ?_, ⟨h9.len, h9.n1, h9.n2, h9.M, fun z' hz' => by cases hz'; exact hz⟩, ?_⟩, TS.tb (TB.set w 3 _) (h8 g (by simp))⟩
    · rw [heap_setCell_same _ _ _ _ _ _ h1]; rfl
    · exact hts.ownV h2 (fun b hb => by cases hb; exact hne gb (by simp))
    · exact h3.ts hts (hne gm (by simp))
    · exact h4.move (fun A x hr hb => hts.rd hr (fun ad ha hf => (hb ad ha).2 (by simp at hf; rw [hf]; simp))) (fun b h h' => ⟨List.mem_cons_of_mem _ h, fun hm => by
        simp only [Option.toList_some, List.mem_append, List.mem_singleton, List.mem_cons] at hm
        rcases hm with hm | hm | hm
        · exact h' (by simp only [List.mem_append]; exact .inl (by simpa using hm))
        · exact h' (by simp only [List.mem_append]; exact .inr (.inl hm))
        · rcases hm with hm | hm
          · exact hn (hm ▸ h)
          · cases hm⟩)
    · exact hts.ownV h5 (fun b hb => by
        cases O with
        | none => cases hb
        | some ad => cases hb; exact hne _ (by simp [optBlk]))
    · unfold FuseAt
      simp only
      rw [hts.block l (Array.getElem?_eq_some_iff.1 hl).1 (fun hm => by simp at hm; exact hlc g (by simp) hm.symm)]; exact hl
    · rw [Option.toList_some, ← List.append_assoc, List.nodup_append]
      refine ⟨by simpa using h7, by simp, fun a ha b hb => ?_⟩
      simp only [List.mem_singleton] at hb
      subst hb
      exact hlc a (by simpa using ha)
    · intro x hx
      rw [Option.toList_some, ← List.append_assoc, List.mem_append] at hx
      rcases hx with hx | hx
      · exact List.mem_cons_of_mem _ (h8 x (by simpa using hx))
      · simp only [List.mem_singleton] at hx; subst hx; exact List.mem_cons_self
    · intro x hx
      simp only [List.mem_cons] at hx
      rcases hx with rfl | hx
      · simpa using (Array.getElem?_eq_some_iff.1 hl).1
      · simpa using h10 x hx
/-- What an operation leaves: the disk, with blocks of its own and new ones; nothing else turned. -/
def DskRes (w : World) (F : List Nat) (g n : Nat) (D : DiskSt) (w' : World) : Prop := ∃ F', (∀ x ∈ F', x ∈ F ∨ w.heap.size ≤ x) ∧ Dsk w' F' g n D ∧ TS F w w'
set_option maxRecDepth 100000 in
set_option maxHeartbeats 1000000 in
theorem dsk_Fail {w : World} {F : List Nat} {g n : Nat} {D : DiskSt} (h : Dsk w F g n D) (z : Int) (hz : z ≤ 9223372036854775807) :
    Calls Tryd.prog 28 #[.pointer (some ⟨g, 0, none⟩), .int .i64 z] w fun e w' => e = .returned (.int .i64 0) ∧ DskRes w F g n { D with fuse := if 0 ≤ z then some z else none } w' := by
  have hF := h.lt
  have hwn : w.heap.size ∉ F := fun hm => by have := hF _ hm; omega
  have hb := h.fb ((FB.refl w).alloc (.cells #[.int .i64 z] 3))
  have HB := Lib.hid hb
  obtain ⟨f3, ⟨p, q3⟩, hu1, hu2⟩ := hb.unfuse
  have HU := Lib.hid (And.intro hu1 hu2)
  have hrow : (w.alloc (.cells #[.int .i64 z] 3)).heap[w.heap.size]? = some (.cells #[.int .i64 z] 3 (0, 0)) := heap_alloc_new _ _
  have hg := h.mem
  have hgl : g ≠ w.heap.size := fun e => hwn (e ▸ hg)
  have hrow2 : ((w.alloc (.cells #[.int .i64 z] 3)).setCell ⟨g, 3, none⟩ (.pointer none)).heap[w.heap.size]? = some (.cells #[.int .i64 z] 3 (0, 0)) := by
    rw [heap_setCell_other _ _ _ _ (fun e => hgl (by simpa using e.symm))]; exact hrow
  have q4 : ((w.alloc (.cells #[.int .i64 z] 3)).setCell ⟨g, 3, none⟩ (.pointer none)).cell? ⟨w.heap.size, 0, none⟩ = some (.int .i64 z) := by rw [cell_of_row _ _ _ _ _ _ hrow2]; rfl
  have HROW := Lib.hid hrow2
  have HFB := Lib.hid ((FB.refl w).alloc (.cells #[.int .i64 z] 3))
  clear hu1 hu2 hb hrow hrow2
  by_cases h0 : 0 ≤ z
  · rw [if_pos h0]
    obtain ⟨fb3, ⟨p2, qb3⟩, -, -⟩ := HU.out.1.unfuse
    have HLI := Lib.hid (HU.out.1.light rfl w.heap.size z HROW.out hwn ⟨h0, hz⟩)
    clear h
    go_enter Tryd.func28, Tryd.ntmps28
    go_wp2_with fail
    refine (dsk_made HB.out).mono ?_
    rintro e w1 ⟨rfl, rfl⟩
    have qb : (w.alloc (.cells #[.int .i64 z] 3)).cell? ⟨w.heap.size, 0, none⟩ = some (.int .i64 z) := by rw [cell_of_row _ _ _ _ _ _ (heap_alloc_new _ _)]; rfl
    generalize w.alloc (.cells #[.int .i64 z] 3) = w0 at *
    go_wp2
    go_ret
    exact ⟨rfl, w.heap.size :: F, fun x hx => by
      simp only [List.mem_cons] at hx
      rcases hx with rfl | hx
      · exact .inr (Nat.le_refl _)
      · exact .inl hx, HLI.out.1, ((TS.of HFB.out).then HU.out.2).then HLI.out.2⟩
  · rw [if_neg h0]
    clear h
    go_enter Tryd.func28, Tryd.ntmps28
    go_wp2_with fail
    refine (dsk_made HB.out).mono ?_
    rintro e w1 ⟨rfl, rfl⟩
    have qb : (w.alloc (.cells #[.int .i64 z] 3)).cell? ⟨w.heap.size, 0, none⟩ = some (.int .i64 z) := by rw [cell_of_row _ _ _ _ _ _ (heap_alloc_new _ _)]; rfl
    generalize w.alloc (.cells #[.int .i64 z] 3) = w0 at *
    go_wp2
    go_ret
    exact ⟨rfl, F, fun x hx => .inl hx, HU.out.1, (TS.of HFB.out).then HU.out.2⟩
end Go.Proofs.YtihljjfnjclefaaDoor
