/- page: the walks through Kind, Same. -/
import Derived.Test.YtihljjfnjclefaaDoorPgD
set_option linter.unusedVariables false
set_option linter.unusedSimpArgs false
namespace Go.Proofs.YtihljjfnjclefaaDoor
open Go.ChangeShapes Go.WideShapes Go.ChangeAt Go.RowKit
attribute [local go_sem] nb_nonneg nb_lt8 nb_lt64
set_option maxRecDepth 100000

set_option maxHeartbeats 1000000 in
theorem pg_Kind (b : List Byte) (A : Option Addr) (c : Nat) (w : World) (hl : b.length ≤ 1000000000) (hc : b.length ≤ c) (hm : c ≤ maxLen) (hr : Rd w A b) :
    Calls Tryd.prog 18 #[.slice A b.length c] w fun e w' => e = .returned (.int .i64 (pgR b).1.1) ∧ FB w w' := by
  have HC := Lib.hid (pg_Read b A c w hl hc hm hr)
  generalize pgR b = r at *
  obtain ⟨⟨K, n, x⟩, er⟩ := r
  clear hl hc hm hr
  go_enter Tryd.func18, Tryd.ntmps18
  go_wp2_with fail
  refine HC.out.mono ?_
  rintro e w1 ⟨A1, c1, rfl, hr, hc, hm, hb⟩
  have HF := Lib.hid (hb.alloc (.cells #[.int .i64 K, .int .u32 (nb n), .slice A1 x.length c1] 25))
  clear hr hc hm hb
  go_wp2
  go_ret
  exact ⟨rfl, HF.out⟩
theorem pbox22 (w : World) (a b c d e f : Value) : let W := (w.alloc (.cells #[a, b, c] 25)).alloc (.cells #[d, e, f] 25)
    FB w W ∧ W.heap[w.heap.size]? = some (.cells #[a, b, c] 25 (0, 0)) ∧ W.heap[w.heap.size + 1]? = some (.cells #[d, e, f] 25 (0, 0)) ∧ W.heap.size = w.heap.size + 2 := by
  refine ⟨((FB.refl w).alloc _).alloc _, ?_, ?_, by simp⟩
  · rw [((FB.refl (w.alloc (.cells #[a, b, c] 25))).alloc _).block _ (by simp)]; exact heap_alloc_new _ _
  · have := heap_alloc_new (w.alloc (.cells #[a, b, c] 25)) (.cells #[d, e, f] 25)
    simpa using this
set_option maxHeartbeats 2000000 in
theorem pg_Same (K K' : Int) (n n' : BitVec 32) (x y : List Byte) (A B : Option Addr) (ca cb : Nat) (w : World) (hx : x.length ≤ 1000000000) (hy : y.length ≤ 1000000000) (hca : x.length ≤ ca) (hcb : y.length ≤ cb) (hma : ca ≤ maxLen) (hmb : cb ≤ maxLen) (hra : Rd w A x) (hrb : Rd w B y) :
    Calls Tryd.prog 15 #[.agg #[.int .i64 K, .int .u32 (nb n), .slice A x.length ca], .agg #[.int .i64 K', .int .u32 (nb n'), .slice B y.length cb]] w fun e w' => e = .returned (.bool (pgSame K n x K' n' y)) ∧ FB w w' := by
  obtain ⟨hf, hb1, hb2, -⟩ := pbox22 w (.int .i64 K) (.int .u32 (nb n)) (.slice A x.length ca) (.int .i64 K') (.int .u32 (nb n')) (.slice B y.length cb)
  have HF0 := Lib.hid hf
  have HB1 := Lib.hid (prow3 hb1)
  have HB2 := Lib.hid (prow3 hb2)
  have HT1 := Lib.hid (fun W (h : FB w W) => by_Trim x A ca W hx hca hma (h.rd hra))
  have HT2 := Lib.hid (fun W (h : FB w W) => by_Trim y B cb W hy hcb hmb (h.rd hrb))
  have HTE := Lib.hid (fun W (h : FB w W) => by_Equal (trimz x) (trimz y) A B ca cb W (by have := (h.rd hra).take (trimz x).length; rw [← trimz_pre] at this; exact this) (by have := (h.rd hrb).take (trimz y).length; rw [← trimz_pre] at this; exact this))
  obtain ⟨R, hR⟩ : ∃ R, R = pgSame K n x K' n' y := ⟨_, rfl⟩
  rw [← hR]
  unfold pgSame at hR
  clear hf hb1 hb2 hx hy hca hcb hma hmb hra hrb
  by_cases hk : K = K'
  · by_cases hn : n = n'
    · have hke : (K == K') = true := by simpa using hk
      have hne : (nb n == nb n') = true := by rw [nb_beq]; simpa using hn
      have HRR := Lib.hid (show R = decide (trimz x = trimz y) from by rw [hR, decide_eq_true hk, decide_eq_true hn]; rfl)
      clear hR hk hn
      go_enter Tryd.func15, Tryd.ntmps15
      go_wp2_with fail
      obtain ⟨W1, hW1⟩ : ∃ W1 : World, W1 = (w.alloc (.cells #[.int .i64 K, .int .u32 (nb n), .slice A x.length ca] 25)).alloc (.cells #[.int .i64 K', .int .u32 (nb n'), .slice B y.length cb] 25) := ⟨_, rfl⟩
      simp only [← hW1] at HF0 HB1 HB2 ⊢
      clear hW1
      obtain ⟨W0, hW0⟩ : ∃ W0 : World, W0 = W1 := ⟨_, rfl⟩
      rw [← hW0]
      refine region_sch (E := FB) ((0, true) :: (1, true) :: (2, true) :: (3, true) :: (4, true) :: (5, true) :: (6, true) :: (7, true) :: (8, true) :: (9, true) :: (10, true) :: (11, true) :: (12, true) :: (13, true) :: (14, true) :: (16, true) :: (17, true) :: (15, false) :: (18, false) :: (19, false) :: (20, true) :: (21, true) :: []) (by kernel_rfl) FB.refl fb_trans (fun _ _ d _ _ h => by cases d <;> exact h) (by kernel_rfl) ?_
      intro ops hops0
      have hops := Lib.hid hops0
      clear hops0
      have HF : FB W0 W0.drew := (FB.refl _).drew
      generalize W0.drew = wF at *
      have HFq := Lib.hid (show FB W1 wF from by rw [← hW0]; exact HF)
      have HFx := Lib.hid (HF0.out.trans HFq.out)
      clear hW0 HF HF0
      have K1 := Lib.hid (FB.cell HFq.out HB1.out.1)
      have K2 := Lib.hid (FB.cell HFq.out HB1.out.2.1)
      have K3 := Lib.hid (FB.cell HFq.out HB1.out.2.2)
      have K4 := Lib.hid (FB.cell HFq.out HB2.out.1)
      have K5 := Lib.hid (FB.cell HFq.out HB2.out.2.1)
      have K6 := Lib.hid (FB.cell HFq.out HB2.out.2.2)
      have HF := FB.refl wF
      repeat (refine sch_take (o := ?_) (v := ?_) (a' := ?_) (at_of hops.out ?_) ?_ (fun W hW => ?_) ?_ ?_; rotate_left 3; (focus (simp only [List.getElem?_toArray, List.getElem?_cons_zero, List.getElem?_cons_succ]; rfl)); (focus (rw [hops.out]; rfl)); (focus (have u1 := FB.cell hW K1.out; have u2 := FB.cell hW K2.out; have u3 := FB.cell hW K3.out; have u4 := FB.cell hW K4.out; have u5 := FB.cell hW K5.out; have u6 := FB.cell hW K6.out; go_simp; with_reducible rfl)); (focus (simp only [Act.put, List.setIfInBounds_toArray, List.set_cons_zero, List.set_cons_succ]; rfl)))
      (refine sch_call (o := ?_) (f := ?_) (args := ?_) (at_of hops.out ?_) ?_ ?_ ?_; rotate_left 3; (focus (simp only [List.getElem?_toArray, List.getElem?_cons_zero, List.getElem?_cons_succ]; rfl)); (focus (rw [hops.out]; rfl)); (focus (go_simp; constructor <;> with_reducible rfl)); (first | ((with_reducible refine (HT1.out _ (HFx.out.trans HF)).mono ?_); rintro e w' ⟨rfl, rfl⟩; refine ⟨_, rfl, FB.refl _, ?_⟩; intro a' ha'; simp only [Act.put, List.setIfInBounds_toArray, List.set_cons_zero, List.set_cons_succ] at ha'; subst ha')))
      repeat (refine sch_take (o := ?_) (v := ?_) (a' := ?_) (at_of hops.out ?_) ?_ (fun W hW => ?_) ?_ ?_; rotate_left 3; (focus (simp only [List.getElem?_toArray, List.getElem?_cons_zero, List.getElem?_cons_succ]; rfl)); (focus (rw [hops.out]; rfl)); (focus (go_simp; with_reducible rfl)); (focus (simp only [Act.put, List.setIfInBounds_toArray, List.set_cons_zero, List.set_cons_succ]; rfl)))
      (refine sch_call (o := ?_) (f := ?_) (args := ?_) (at_of hops.out ?_) ?_ ?_ ?_; rotate_left 3; (focus (simp only [List.getElem?_toArray, List.getElem?_cons_zero, List.getElem?_cons_succ]; rfl)); (focus (rw [hops.out]; rfl)); (focus (go_simp; constructor <;> with_reducible rfl)); (first | ((with_reducible refine (HT2.out _ (HFx.out.trans HF)).mono ?_); rintro e w' ⟨rfl, rfl⟩; refine ⟨_, rfl, FB.refl _, ?_⟩; intro a' ha'; simp only [Act.put, List.setIfInBounds_toArray, List.set_cons_zero, List.set_cons_succ] at ha'; subst ha')))
      repeat (refine sch_take (o := ?_) (v := ?_) (a' := ?_) (at_of hops.out ?_) ?_ (fun W hW => ?_) ?_ ?_; rotate_left 3; (focus (simp only [List.getElem?_toArray, List.getElem?_cons_zero, List.getElem?_cons_succ]; rfl)); (focus (rw [hops.out]; rfl)); (focus (go_simp; with_reducible rfl)); (focus (simp only [Act.put, List.setIfInBounds_toArray, List.set_cons_zero, List.set_cons_succ]; rfl)))
      (refine sch_call (o := ?_) (f := ?_) (args := ?_) (at_of hops.out ?_) ?_ ?_ ?_; rotate_left 3; (focus (simp only [List.getElem?_toArray, List.getElem?_cons_zero, List.getElem?_cons_succ]; rfl)); (focus (rw [hops.out]; rfl)); (focus (go_simp; constructor <;> with_reducible rfl)); (first | ((with_reducible refine (HTE.out _ (HFx.out.trans HF)).mono ?_); rintro e w' ⟨rfl, rfl⟩; refine ⟨_, rfl, FB.refl _, ?_⟩; intro a' ha'; simp only [Act.put, List.setIfInBounds_toArray, List.set_cons_zero, List.set_cons_succ] at ha'; subst ha')))
      repeat (refine sch_take (o := ?_) (v := ?_) (a' := ?_) (at_of hops.out ?_) ?_ (fun W hW => ?_) ?_ ?_; rotate_left 3; (focus (simp only [List.getElem?_toArray, List.getElem?_cons_zero, List.getElem?_cons_succ]; rfl)); (focus (rw [hops.out]; rfl)); (focus (go_simp; with_reducible rfl)); (focus (simp only [Act.put, List.setIfInBounds_toArray, List.set_cons_zero, List.set_cons_succ]; rfl)))
      refine sch_done ?_
      have HE := Lib.hid (HFx.out.trans HF)
      clear hops HF K1 K2 K3 K4 K5 K6
      go_wp2
      go_ret
      exact ⟨by rw [HRR.out]; rfl, HE.out⟩
    · have hke : (K == K') = true := by simpa using hk
      have hne : (nb n == nb n') = false := by rw [nb_beq]; simpa using hn
      have HRR := Lib.hid (show R = false from by rw [hR, decide_eq_false hn]; simp)
      clear hR hk hn
      go_enter Tryd.func15, Tryd.ntmps15
      go_wp2_with fail
      obtain ⟨W1, hW1⟩ : ∃ W1 : World, W1 = (w.alloc (.cells #[.int .i64 K, .int .u32 (nb n), .slice A x.length ca] 25)).alloc (.cells #[.int .i64 K', .int .u32 (nb n'), .slice B y.length cb] 25) := ⟨_, rfl⟩
      simp only [← hW1] at HF0 HB1 HB2 ⊢
      clear hW1
      obtain ⟨W0, hW0⟩ : ∃ W0 : World, W0 = W1 := ⟨_, rfl⟩
      rw [← hW0]
      refine region_sch (E := FB) ((0, true) :: (1, true) :: (2, true) :: (3, true) :: (4, true) :: (5, true) :: (6, true) :: (7, true) :: (8, true) :: (9, true) :: (10, true) :: (11, true) :: (12, true) :: (13, true) :: (14, true) :: (16, true) :: (17, true) :: (15, false) :: (18, false) :: (19, false) :: (20, true) :: (21, true) :: []) (by kernel_rfl) FB.refl fb_trans (fun _ _ d _ _ h => by cases d <;> exact h) (by kernel_rfl) ?_
      intro ops hops0
      have hops := Lib.hid hops0
      clear hops0
      have HF : FB W0 W0.drew := (FB.refl _).drew
      generalize W0.drew = wF at *
      have HFq := Lib.hid (show FB W1 wF from by rw [← hW0]; exact HF)
      have HFx := Lib.hid (HF0.out.trans HFq.out)
      clear hW0 HF HF0
      have K1 := Lib.hid (FB.cell HFq.out HB1.out.1)
      have K2 := Lib.hid (FB.cell HFq.out HB1.out.2.1)
      have K3 := Lib.hid (FB.cell HFq.out HB1.out.2.2)
      have K4 := Lib.hid (FB.cell HFq.out HB2.out.1)
      have K5 := Lib.hid (FB.cell HFq.out HB2.out.2.1)
      have K6 := Lib.hid (FB.cell HFq.out HB2.out.2.2)
      have HF := FB.refl wF
      repeat (first | (refine sch_take (o := ?_) (v := ?_) (a' := ?_) (at_of hops.out ?_) ?_ (fun W hW => ?_) ?_ ?_; rotate_left 3; (focus (simp only [List.getElem?_toArray, List.getElem?_cons_zero, List.getElem?_cons_succ]; rfl)); (focus (rw [hops.out]; rfl)); (focus (have u1 := FB.cell hW K1.out; have u2 := FB.cell hW K2.out; have u3 := FB.cell hW K3.out; have u4 := FB.cell hW K4.out; have u5 := FB.cell hW K5.out; have u6 := FB.cell hW K6.out; go_simp; with_reducible rfl)); (focus (simp only [Act.put, List.setIfInBounds_toArray, List.set_cons_zero, List.set_cons_succ]; rfl))) | (refine sch_skip (o := ?_) (a' := ?_) FB.refl (at_of hops.out ?_) ?_ ?_ ?_; rotate_left 2; (focus (simp only [List.getElem?_toArray, List.getElem?_cons_zero, List.getElem?_cons_succ]; rfl)); (focus (rw [hops.out]; rfl)); (focus (simp only [Act.put, List.setIfInBounds_toArray, List.set_cons_zero, List.set_cons_succ]; rfl))))
      refine sch_done ?_
      have HE := Lib.hid (HFx.out.trans HF)
      clear hops HF K1 K2 K3 K4 K5 K6
      go_wp2
      go_ret
      exact ⟨by rw [HRR.out]; rfl, HE.out⟩
  · have hke : (K == K') = false := by simpa using hk
    have HRR := Lib.hid (show R = false from by rw [hR, decide_eq_false hk]; simp)
    clear hR hk
    go_enter Tryd.func15, Tryd.ntmps15
    go_wp2_with fail
    obtain ⟨W1, hW1⟩ : ∃ W1 : World, W1 = (w.alloc (.cells #[.int .i64 K, .int .u32 (nb n), .slice A x.length ca] 25)).alloc (.cells #[.int .i64 K', .int .u32 (nb n'), .slice B y.length cb] 25) := ⟨_, rfl⟩
    simp only [← hW1] at HF0 HB1 HB2 ⊢
    clear hW1
    obtain ⟨W0, hW0⟩ : ∃ W0 : World, W0 = W1 := ⟨_, rfl⟩
    rw [← hW0]
    refine region_sch (E := FB) ((0, true) :: (1, true) :: (2, true) :: (3, true) :: (4, true) :: (5, true) :: (6, true) :: (7, true) :: (8, true) :: (9, true) :: (10, true) :: (11, true) :: (12, true) :: (13, true) :: (14, true) :: (16, true) :: (17, true) :: (15, false) :: (18, false) :: (19, false) :: (20, true) :: (21, true) :: []) (by kernel_rfl) FB.refl fb_trans (fun _ _ d _ _ h => by cases d <;> exact h) (by kernel_rfl) ?_
    intro ops hops0
    have hops := Lib.hid hops0
    clear hops0
    have HF : FB W0 W0.drew := (FB.refl _).drew
    generalize W0.drew = wF at *
    have HFq := Lib.hid (show FB W1 wF from by rw [← hW0]; exact HF)
    have HFx := Lib.hid (HF0.out.trans HFq.out)
    clear hW0 HF HF0
    have K1 := Lib.hid (FB.cell HFq.out HB1.out.1)
    have K2 := Lib.hid (FB.cell HFq.out HB1.out.2.1)
    have K3 := Lib.hid (FB.cell HFq.out HB1.out.2.2)
    have K4 := Lib.hid (FB.cell HFq.out HB2.out.1)
    have K5 := Lib.hid (FB.cell HFq.out HB2.out.2.1)
    have K6 := Lib.hid (FB.cell HFq.out HB2.out.2.2)
    have HF := FB.refl wF
    repeat (first | (refine sch_take (o := ?_) (v := ?_) (a' := ?_) (at_of hops.out ?_) ?_ (fun W hW => ?_) ?_ ?_; rotate_left 3; (focus (simp only [List.getElem?_toArray, List.getElem?_cons_zero, List.getElem?_cons_succ]; rfl)); (focus (rw [hops.out]; rfl)); (focus (have u1 := FB.cell hW K1.out; have u2 := FB.cell hW K2.out; have u3 := FB.cell hW K3.out; have u4 := FB.cell hW K4.out; have u5 := FB.cell hW K5.out; have u6 := FB.cell hW K6.out; go_simp; with_reducible rfl)); (focus (simp only [Act.put, List.setIfInBounds_toArray, List.set_cons_zero, List.set_cons_succ]; rfl))) | (refine sch_skip (o := ?_) (a' := ?_) FB.refl (at_of hops.out ?_) ?_ ?_ ?_; rotate_left 2; (focus (simp only [List.getElem?_toArray, List.getElem?_cons_zero, List.getElem?_cons_succ]; rfl)); (focus (rw [hops.out]; rfl)); (focus (simp only [Act.put, List.setIfInBounds_toArray, List.set_cons_zero, List.set_cons_succ]; rfl))))
    refine sch_done ?_
    have HE := Lib.hid (HFx.out.trans HF)
    clear hops HF K1 K2 K3 K4 K5 K6
    go_wp2
    go_ret
    exact ⟨by rw [HRR.out]; rfl, HE.out⟩
end Go.Proofs.YtihljjfnjclefaaDoor
