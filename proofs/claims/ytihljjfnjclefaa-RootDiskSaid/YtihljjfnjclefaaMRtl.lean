/- Walks and laws that the claim's last text stands on, several texts in one file: RtL, Row, RowRt. Under the hypotheses that each theorem states. -/
import Derived.OpenShut
import Derived.ChangeOld
import Derived.Lib.SmallJoins
import Derived.Test.YtihljjfnjclefaaMRta
import Derived.Test.YtihljjfnjclefaaMRtb
import Derived.Test.YtihljjfnjclefaaMRtc
import Derived.Test.YtihljjfnjclefaaMRtd
import Derived.Test.YtihljjfnjclefaaMRte
import Derived.Test.YtihljjfnjclefaaMRtf
import Derived.Test.YtihljjfnjclefaaMRtg
import Derived.Test.YtihljjfnjclefaaMRth
import Derived.Test.YtihljjfnjclefaaMRti
import Derived.Test.YtihljjfnjclefaaMRtj
import Derived.Test.YtihljjfnjclefaaMRtk
/- root: the chapter's examples (lives). -/
set_option linter.unusedVariables false
set_option linter.unusedSimpArgs false
namespace Go.Proofs.Ytihljjfnjclefaa
open Go.ChangeShapes Go.WideShapes Go.ChangeAt Go.RowKit
attribute [local go_sem] nb_nonneg nb_lt8 nb_lt64
set_option maxRecDepth 100000

theorem results_cell1 {P : Program} {fn : Func} {a : Tmp} {ty : TypeId} (h : fn.results = #[.cell a ty]) (tmps : Array Value) (g : Nat) (hg : tmps.getD a undef = .pointer (some ⟨g, 0, none⟩)) (w : World) (v : Value)
    (hl : (loadVar ty ⟨g, 0, none⟩).run P w = .ok v w) : (results fn tmps).run P w = .ok v w := by
  have hg' : tmps[a]?.getD undef = .pointer (some ⟨g, 0, none⟩) := by simpa using hg
  simp [results, h, hg', asAddr, hl]
theorem rt_ret1 {fn : Func} {a : Tmp} (h : fn.results = #[.cell a 29]) (tmps : Array Value) (g : Nat) (hg : tmps.getD a undef = .pointer (some ⟨g, 0, none⟩)) (w : World) {r : Rt}
    (hw : w.heap[g]? = some (.cells (rtCs r) 29 (0, 0))) : (results fn tmps).run Try.prog w = .ok (rtV r) w :=
  results_cell1 h tmps g hg w _ (rt_load hw)
set_option maxHeartbeats 400000 in
theorem l6_of (x : BitVec 64) (w : World) : Calls Try.prog 15 #[.int .u64 (nb x)] w fun e w' => e = .returned (rtV (rtE x)) ∧ FB w w' := by
  obtain ⟨W1, hW1⟩ : ∃ W1 : World, W1 = w.alloc (.cells (rtCs rt0) 29) := ⟨_, rfl⟩
  have HF := Lib.hid (show FB w W1 from by rw [hW1]; exact (FB.refl w).alloc _)
  have hg := (show W1.heap[w.heap.size]? = some (.cells (rtCs rt0) 29 (0, 0)) from by rw [hW1]; exact heap_alloc_new w _)
  have hs := rt_store rt0 (rtE x) hg
  have HE := Lib.hid (setRow_heap _ _ _ (rtCs (rtE x)) _ _ hg)
  have HW1 := Lib.hid hW1
  unfold rtV at hs
  have hs2 : (Instr.storeAt 29 (.pointer (some ⟨w.heap.size, 0, none⟩)) (.agg #[.int .u64 (nb x), .int .u64 8, .int .u64 0, .int .u64 0, .int .u64 0, .int .u64 0, .int .u64 0, .int .u64 0, .int .u64 0])).run Try.prog W1 = .ok () (W1.setRow w.heap.size (rtCs (rtE x))) := hs
  clear hW1 hs hg
  go_enter Try.func15, Try.ntmps15
  go_upto_region 1 with fail
  rw [← rt0_cs, ← HW1.out]
  clear HW1
  go_wp2_with (refine wpList_store_by rfl _ _ _ rfl _ hs2 ?_)
  try simp only [Exit.inBlock, Exit.then]
  refine bodyPost_ret (rt_ret1 rfl _ w.heap.size rfl _ HE.out) rfl ?_
  exact ⟨rfl, HF.out.setRow (Nat.le_refl _) _⟩
def lit2 (e : Int) : Value := .agg #[.int .u64 e, .int .u64 8, .int .u64 0, .int .u64 0, .int .u64 0, .int .u64 0, .int .u64 0, .int .u64 0, .int .u64 0]
theorem l6_of1 (w : World) : Calls Try.prog 15 #[.int .u64 1] w fun e w' => e = .returned (.agg #[.int .u64 1, .int .u64 8, .int .u64 0, .int .u64 0, .int .u64 0, .int .u64 0, .int .u64 0, .int .u64 0, .int .u64 0]) ∧ FB w w' := l6_of 1#64 w
theorem l6_of2 (w : World) : Calls Try.prog 15 #[.int .u64 2] w fun e w' => e = .returned (.agg #[.int .u64 2, .int .u64 8, .int .u64 0, .int .u64 0, .int .u64 0, .int .u64 0, .int .u64 0, .int .u64 0, .int .u64 0]) ∧ FB w w' := l6_of 2#64 w
set_option maxHeartbeats 4000000 in
theorem rt_lives (w : World) : Calls Try.prog 13 #[] w fun e w' => e = .returned (.bool true) ∧ FB w w' := by
  go_enter Try.func13, Try.ntmps13
  go_wp2_with fail
  refine (dsk_New_ok 64 (by omega) (by omega) _).mono ?_
  rintro e w1 ⟨F, g, rfl, hd, hb, hF⟩
  have HD1 := Lib.hid (show Dsk w1 F g 64 lv0 from hd)
  have HF1 := Lib.hid hb
  have HN := Lib.hid hF
  clear hd hb hF
  go_wp2_with fail
  refine (l6_of1 _).mono ?_
  rintro e w1' ⟨rfl, hb⟩
  have hcw := rt_Write (HD1.out.fb hb) (rtE 1#64)
  rw [lv1_all.1] at hcw
  have HC := Lib.hid hcw
  have HF1b := Lib.hid (HF1.out.trans hb)
  clear hcw hb HF1
  go_wp2_with fail
  refine HC.out.mono ?_
  rintro e w2 ⟨rfl, F2, hf2, hd, ht⟩
  have HD2 := Lib.hid hd
  have HF2 := Lib.hid (HF1b.out.ts ht HN.out)
  have HN2 := Lib.hid (show ∀ x ∈ F2, w.heap.size ≤ x from fun x hx => (hf2 x hx).elim (HN.out x) (fun h => Nat.le_trans HF1b.out.le h))
  clear hf2 hd ht HC HD1 HF1b HN
  go_wp2_with fail
  refine (l6_of2 _).mono ?_
  rintro e w2' ⟨rfl, hb⟩
  have hcw := rt_Write (HD2.out.fb hb) (rtE 2#64)
  rw [lv2_all.1] at hcw
  have HC := Lib.hid hcw
  have HF2b := Lib.hid (HF2.out.trans hb)
  clear hcw hb HF2
  go_wp2_with fail
  refine HC.out.mono ?_
  rintro e w3 ⟨rfl, F3, hf3, hd, ht⟩
  have HD3 := Lib.hid hd
  have HF3 := Lib.hid (HF2b.out.ts ht HN2.out)
  have HN3 := Lib.hid (show ∀ x ∈ F3, w.heap.size ≤ x from fun x hx => (hf3 x hx).elim (HN2.out x) (fun h => Nat.le_trans HF2b.out.le h))
  clear hf3 hd ht HC HD2 HF2b HN2
  have hcf := rt_Find HD3.out
  rw [lv2_find] at hcf
  have HC := Lib.hid (show Calls Try.prog 11 #[.pointer (some ⟨g, 0, none⟩)] w3 fun e w' => e = .returned (.tuple #[.agg #[.int .u64 2, .int .u64 8, .int .u64 0, .int .u64 0, .int .u64 0, .int .u64 0, .int .u64 0, .int .u64 0, .int .u64 0], .int .i64 0]) ∧ Dsk w' F3 g 64 lv2 ∧ TS F3 w3 w' from hcf)
  clear hcf
  go_wp2_with fail
  refine HC.out.mono ?_
  rintro e w4 ⟨rfl, hd, ht⟩
  obtain ⟨W5, hW5⟩ : ∃ W5 : World, W5 = w4.alloc (.cells (rtCs (rtE 2#64)) 29) := ⟨_, rfl⟩
  have HF5 := Lib.hid (show FB w W5 from by rw [hW5]; exact (HF3.out.ts ht HN3.out).alloc _)
  have HD5 := Lib.hid (show Dsk W5 F3 g 64 lv2 from by rw [hW5]; exact hd.fb ((FB.refl w4).alloc _))
  have HR5 := Lib.hid (show W5.heap[w4.heap.size]? = some (.cells (rtCs (rtE 2#64)) 29 (0, 0)) from by rw [hW5]; exact heap_alloc_new w4 _)
  have HGR := Lib.hid (show w.heap.size ≤ w4.heap.size from (HF3.out.ts ht HN3.out).le)
  have HNG := Lib.hid (show w4.heap.size ∉ F3 from fun hm => by have := hd.lt _ hm; omega)
  have HW5 := Lib.hid (show w4.alloc (.cells #[.int .u64 2, .int .u64 8, .int .u64 0, .int .u64 0, .int .u64 0, .int .u64 0, .int .u64 0, .int .u64 0, .int .u64 0] 29) = W5 from hW5.symm)
  clear hd ht HC HD3 HF3 hW5
  go_upto_region 5 with fail
  rw [HW5.out]
  clear HW5
  generalize w4.heap.size = gr at *
  obtain ⟨W0, hW0⟩ : ∃ W0 : World, W0 = W5 := ⟨_, rfl⟩
  rw [← hW0]
  refine region_sch (E := TS (F3)) ((0, true) :: (1, true) :: (2, true) :: (3, true) :: (4, false) :: (5, true) :: (6, true) :: (7, true) :: (8, true) :: (9, true) :: (10, false) :: (11, true) :: (12, true) :: []) (by kernel_rfl) (TS.refl _) (fun _ _ _ h k => TS.then h k) (fun _ _ d _ _ h => by cases d <;> exact h) (by kernel_rfl) ?_
  intro ops hops0
  have hops := Lib.hid hops0
  clear hops0
  have HF : TS (F3) W0 W0.drew := TS.of (FB.refl _).drew
  have HD : FB W0 W0.drew := (FB.refl _).drew
  generalize W0.drew = wF0 at *
  rw [hW0] at HD
  have HF6 := Lib.hid (HF5.out.trans HD)
  have HD6 := Lib.hid (HD5.out.fb HD)
  have HR6 := Lib.hid ((HD.block _ (Array.getElem?_eq_some_iff.1 HR5.out).1).trans HR5.out)
  have HKK := Lib.hid (show wF0.cell? ⟨gr, 0, none⟩ = some (.int .u64 2) ∧ wF0.cell? ⟨gr, 1, none⟩ = some (.int .u64 8) ∧ wF0.cell? ⟨gr, 2, none⟩ = some (.int .u64 0) ∧ wF0.cell? ⟨gr, 3, none⟩ = some (.int .u64 0) ∧ wF0.cell? ⟨gr, 4, none⟩ = some (.int .u64 0) ∧ wF0.cell? ⟨gr, 5, none⟩ = some (.int .u64 0) ∧ wF0.cell? ⟨gr, 6, none⟩ = some (.int .u64 0) ∧ wF0.cell? ⟨gr, 7, none⟩ = some (.int .u64 0) ∧ wF0.cell? ⟨gr, 8, none⟩ = some (.int .u64 0) from prow9 HR6.out)
  clear hW0 HD HF HF5 HD5 HR5
  repeat (refine sch_take (o := ?_) (v := ?_) (a' := ?_) (at_of hops.out ?_) ?_ (fun W hW => ?_) ?_ ?_; rotate_left 3; (focus (simp only [List.getElem?_toArray, List.getElem?_cons_zero, List.getElem?_cons_succ]; rfl)); (focus (rw [hops.out]; rfl)); (focus (have u0 := TS.cell hW HKK.out.1 HNG.out; have u1 := TS.cell hW HKK.out.2.1 HNG.out; have u2 := TS.cell hW HKK.out.2.2.1 HNG.out; have u3 := TS.cell hW HKK.out.2.2.2.1 HNG.out; have u4 := TS.cell hW HKK.out.2.2.2.2.1 HNG.out; have u5 := TS.cell hW HKK.out.2.2.2.2.2.1 HNG.out; have u6 := TS.cell hW HKK.out.2.2.2.2.2.2.1 HNG.out; have u7 := TS.cell hW HKK.out.2.2.2.2.2.2.2.1 HNG.out; have u8 := TS.cell hW HKK.out.2.2.2.2.2.2.2.2 HNG.out; go_simp; with_reducible rfl)); (focus (simp only [Act.put, List.setIfInBounds_toArray, List.set_cons_zero, List.set_cons_succ]; rfl)))
  (refine sch_call (o := ?_) (f := ?_) (args := ?_) (at_of hops.out ?_) ?_ ?_ ?_; rotate_left 3; (focus (simp only [List.getElem?_toArray, List.getElem?_cons_zero, List.getElem?_cons_succ]; rfl)); (focus (rw [hops.out]; rfl)); (focus (go_simp; constructor <;> with_reducible rfl)); (first | ((with_reducible refine (l6_of2 _).mono ?_); rintro e w7 ⟨rfl, hb⟩; refine ⟨_, rfl, (TS.of hb), ?_⟩; intro a' ha'; simp only [Act.put, List.setIfInBounds_toArray, List.set_cons_zero, List.set_cons_succ] at ha'; subst ha')))
  have HF7 := Lib.hid (HF6.out.trans hb)
  have HD7 := Lib.hid (HD6.out.fb hb)
  have HFR := Lib.hid hb
  clear hb HF6 HD6 HKK
  have hq : ∀ w, (binOp .neq 29 (.agg #[.int .u64 2, .int .u64 8, .int .u64 0, .int .u64 0, .int .u64 0, .int .u64 0, .int .u64 0, .int .u64 0, .int .u64 0]) (.agg #[.int .u64 2, .int .u64 8, .int .u64 0, .int .u64 0, .int .u64 0, .int .u64 0, .int .u64 0, .int .u64 0, .int .u64 0])).run Try.prog w = .ok (.bool false) w := fun w => by
    have h := rt_neq (rtE 2#64) (rtE 2#64) w
    rw [rtEq_self] at h
    exact h
  have hqg := fun op x y xs ys w => rt_eqGuard op x y xs ys w
  repeat (refine sch_take (o := ?_) (v := ?_) (a' := ?_) (at_of hops.out ?_) ?_ (fun W hW => ?_) ?_ ?_; rotate_left 3; (focus (simp only [List.getElem?_toArray, List.getElem?_cons_zero, List.getElem?_cons_succ]; rfl)); (focus (rw [hops.out]; rfl)); (focus (go_simp; with_reducible rfl)); (focus (simp only [Act.put, List.setIfInBounds_toArray, List.set_cons_zero, List.set_cons_succ]; rfl)))
  have hcc := dsk_Crash HD7.out none 0 [] 0 0 (RdV.nil _ _) (fun ad ha => by cases ha)
  have HC := Lib.hid (show Calls Try.prog 32 #[.pointer (some ⟨g, 0, none⟩), .agg #[.slice none 0 0, .int .i64 0, .int .i64 0]] w7 fun e w' => e = .returned (.int .i64 0) ∧ Dsk w' F3 g 64 (lvC [] 0 0) ∧ TS F3 w7 w' from hcc)
  have HOK := Lib.hid (And.intro HD7.out.ok HD7.out.nodupK)
  have HR7 := Lib.hid (show w7.heap[gr]? = some (.cells (rtCs (rtE 2#64)) 29 (0, 0)) from (FB.block (HFR.out) _ (Array.getElem?_eq_some_iff.1 HR6.out).1).trans HR6.out)
  clear hcc hq HFR HR6
  (refine sch_call (o := ?_) (f := ?_) (args := ?_) (at_of hops.out ?_) ?_ ?_ ?_; rotate_left 3; (focus (simp only [List.getElem?_toArray, List.getElem?_cons_zero, List.getElem?_cons_succ]; rfl)); (focus (rw [hops.out]; rfl)); (focus (go_simp; constructor <;> with_reducible rfl)); (first | ((with_reducible refine HC.out.mono ?_); rintro e w8 ⟨rfl, hd, ht⟩; refine ⟨_, rfl, ht, ?_⟩; intro a' ha'; simp only [Act.put, List.setIfInBounds_toArray, List.set_cons_zero, List.set_cons_succ] at ha'; subst ha')))
  have HD8 := Lib.hid hd
  have HF8 := Lib.hid (HF7.out.ts ht HN3.out)
  have HR8 := Lib.hid ((ht.block _ (Array.getElem?_eq_some_iff.1 HR7.out).1 HNG.out).trans HR7.out)
  clear hd ht HC HF7 HD7 HR7
  repeat (refine sch_take (o := ?_) (v := ?_) (a' := ?_) (at_of hops.out ?_) ?_ (fun W hW => ?_) ?_ ?_; rotate_left 3; (focus (simp only [List.getElem?_toArray, List.getElem?_cons_zero, List.getElem?_cons_succ]; rfl)); (focus (rw [hops.out]; rfl)); (focus (go_simp; with_reducible rfl)); (focus (simp only [Act.put, List.setIfInBounds_toArray, List.set_cons_zero, List.set_cons_succ]; rfl)))
  refine sch_done ?_
  clear hops
  have hcf := rt_Find HD8.out
  rw [lvC_none HOK.out.1 HOK.out.2] at hcf
  have HC := Lib.hid hcf
  clear hcf
  go_wp2_with fail
  refine HC.out.mono ?_
  rintro e w9 ⟨rfl, -, ht⟩
  have HF9 := Lib.hid (HF8.out.ts ht HN3.out)
  have HR9 := Lib.hid ((ht.block _ (Array.getElem?_eq_some_iff.1 HR8.out).1 HNG.out).trans HR8.out)
  clear ht HC HF8 HD8 HR8 HN3 HOK HNG
  go_wp2_with fail
  refine (dsk_New_ok 64 (by omega) (by omega) _).mono ?_
  rintro e w1 ⟨F, g, rfl, hd, hb, hF⟩
  have HD1 := Lib.hid (show Dsk w1 F g 64 lv0 from hd)
  have HF1 := Lib.hid (HF9.out.trans hb)
  have HR1 := Lib.hid ((hb.block _ (Array.getElem?_eq_some_iff.1 HR9.out).1).trans HR9.out)
  have HN := Lib.hid (show ∀ x ∈ F, w.heap.size ≤ x ∧ gr ≠ x from fun x hx => ⟨Nat.le_trans HF9.out.le (hF x hx), by have := hF x hx; have := (Array.getElem?_eq_some_iff.1 HR9.out).1; omega⟩)
  clear hd hb hF HF9 HR9
  go_wp2_with fail
  refine (l6_of1 _).mono ?_
  rintro e w1' ⟨rfl, hb⟩
  have hcw := rt_Write (HD1.out.fb hb) (rtE 1#64)
  rw [lv1_all.1] at hcw
  have HC := Lib.hid hcw
  have HF1b := Lib.hid (HF1.out.trans hb)
  have HR1b := Lib.hid ((hb.block _ (Array.getElem?_eq_some_iff.1 HR1.out).1).trans HR1.out)
  clear hcw hb HF1 HR1
  go_wp2_with fail
  refine HC.out.mono ?_
  rintro e w2 ⟨rfl, F2, hf2, hd, ht⟩
  have HD2 := Lib.hid hd
  have HF2 := Lib.hid (HF1b.out.ts ht (fun x hx => (HN.out x hx).1))
  have HR2 := Lib.hid ((ht.block _ (Array.getElem?_eq_some_iff.1 HR1b.out).1 (fun hm => (HN.out _ hm).2 rfl)).trans HR1b.out)
  have HN2 := Lib.hid (show ∀ x ∈ F2, w.heap.size ≤ x ∧ gr ≠ x from fun x hx => (hf2 x hx).elim (HN.out x) (fun h => ⟨Nat.le_trans HF1b.out.le h, by have := (Array.getElem?_eq_some_iff.1 HR1b.out).1; omega⟩))
  clear hf2 hd ht HC HD1 HF1b HR1b HN
  go_wp2_with fail
  refine (l6_of2 _).mono ?_
  rintro e w2' ⟨rfl, hb⟩
  have hcw := rt_Write (HD2.out.fb hb) (rtE 2#64)
  rw [lv2_all.1] at hcw
  have HC := Lib.hid hcw
  have HF2b := Lib.hid (HF2.out.trans hb)
  have HR2b := Lib.hid ((hb.block _ (Array.getElem?_eq_some_iff.1 HR2.out).1).trans HR2.out)
  clear hcw hb HF2 HR2
  go_wp2_with fail
  refine HC.out.mono ?_
  rintro e w3 ⟨rfl, F3, hf3, hd, ht⟩
  have HD3 := Lib.hid hd
  have HF3 := Lib.hid (HF2b.out.ts ht (fun x hx => (HN2.out x hx).1))
  have HR3 := Lib.hid ((ht.block _ (Array.getElem?_eq_some_iff.1 HR2b.out).1 (fun hm => (HN2.out _ hm).2 rfl)).trans HR2b.out)
  have HN3 := Lib.hid (show ∀ x ∈ F3, w.heap.size ≤ x ∧ gr ≠ x from fun x hx => (hf3 x hx).elim (HN2.out x) (fun h => ⟨Nat.le_trans HF2b.out.le h, by have := (Array.getElem?_eq_some_iff.1 HR2b.out).1; omega⟩))
  clear hf3 hd ht HC HD2 HF2b HR2b HN2
  have HOK := Lib.hid (And.intro HD3.out.ok HD3.out.nodupK)
  have HRD := Lib.hid (show RdV (w3.alloc (.cells #[.bool true, .bool true, .bool true, .bool true, .bool true, .bool true, .bool true, .bool true] 4)) (some ⟨w3.heap.size, 0, none⟩) ([true, true, true, true, true, true, true, true].map .bool) from RdV.lit w3 ([true, true, true, true, true, true, true, true].map .bool) 4 rfl)
  have hcc := dsk_Crash (HD3.out.fb ((FB.refl w3).alloc _)) (some ⟨w3.heap.size, 0, none⟩) 8 [true, true, true, true, true, true, true, true] (-1) 0 HRD.out (fun ad ha hm => by cases ha; have := HD3.out.lt _ hm; simp at this)
  have HC := Lib.hid (show Calls Try.prog 32 #[.pointer (some ⟨g, 0, none⟩), .agg #[.slice (some ⟨w3.heap.size, 0, none⟩) 8 8, .int .i64 (-1), .int .i64 0]] (w3.alloc (.cells #[.bool true, .bool true, .bool true, .bool true, .bool true, .bool true, .bool true, .bool true] 4)) fun e w' => e = .returned (.int .i64 0) ∧ Dsk w' F3 g 64 (lvC [true, true, true, true, true, true, true, true] (-1) 0) ∧ TS F3 (w3.alloc (.cells #[.bool true, .bool true, .bool true, .bool true, .bool true, .bool true, .bool true, .bool true] 4)) w' from hcc)
  clear hcc HRD
  go_wp2_with fail
  refine HC.out.mono ?_
  rintro e w4 ⟨rfl, hd, ht⟩
  have HD4 := Lib.hid hd
  have HF4 := Lib.hid ((HF3.out.alloc _).ts ht (fun x hx => (HN3.out x hx).1))
  have HR4 := Lib.hid ((ht.block _ (by have := (Array.getElem?_eq_some_iff.1 HR3.out).1; simp; omega) (fun hm => (HN3.out _ hm).2 rfl)).trans ((((FB.refl w3).alloc (.cells #[.bool true, .bool true, .bool true, .bool true, .bool true, .bool true, .bool true, .bool true] 4)).block _ (Array.getElem?_eq_some_iff.1 HR3.out).1).trans HR3.out))
  clear hd ht HC HF3 HR3 HD3
  have hcf := rt_Find HD4.out
  rw [lvC_eight HOK.out.1 HOK.out.2] at hcf
  have HC := Lib.hid (show Calls Try.prog 11 #[.pointer (some ⟨g, 0, none⟩)] w4 fun e w' => e = .returned (.tuple #[.agg #[.int .u64 1, .int .u64 8, .int .u64 0, .int .u64 0, .int .u64 0, .int .u64 0, .int .u64 0, .int .u64 0, .int .u64 0], .int .i64 0]) ∧ Dsk w' F3 g 64 (lvC [true, true, true, true, true, true, true, true] (-1) 0) ∧ TS F3 w4 w' from hcf)
  clear hcf HOK
  go_wp2_with fail
  refine HC.out.mono ?_
  rintro e w5 ⟨rfl, -, ht⟩
  have HF5 := Lib.hid (HF4.out.ts ht (fun x hx => (HN3.out x hx).1))
  have HR5 := Lib.hid ((ht.block _ (Array.getElem?_eq_some_iff.1 HR4.out).1 (fun hm => (HN3.out _ hm).2 rfl)).trans HR4.out)
  clear ht HC HF4 HR4 HD4 HN3
  have hst : (Instr.storeAt 29 (.pointer (some ⟨gr, 0, none⟩)) (.agg #[.int .u64 1, .int .u64 8, .int .u64 0, .int .u64 0, .int .u64 0, .int .u64 0, .int .u64 0, .int .u64 0, .int .u64 0])).run Try.prog w5 = .ok () (w5.setRow gr (rtCs (rtE 1#64))) := rt_store (rtE 2#64) (rtE 1#64) HR5.out
  obtain ⟨W6, hW6⟩ : ∃ W6 : World, W6 = w5.setRow gr (rtCs (rtE 1#64)) := ⟨_, rfl⟩
  rw [← hW6] at hst
  have HF6 := Lib.hid (show FB w W6 from by rw [hW6]; exact HF5.out.setRow HGR.out _)
  have HR6 := Lib.hid (show W6.heap[gr]? = some (.cells (rtCs (rtE 1#64)) 29 (0, 0)) from by rw [hW6]; exact setRow_heap _ _ _ (rtCs (rtE 1#64)) _ _ HR5.out)
  clear hW6 HF5 HR5
  go_upto_region 13 with (refine wpList_store_by rfl _ _ _ rfl _ hst ?_)
  clear hst
  obtain ⟨W0, hW0⟩ : ∃ W0 : World, W0 = W6 := ⟨_, rfl⟩
  rw [← hW0]
  refine region_sch (E := FB) ((0, true) :: (1, true) :: (2, true) :: (3, true) :: (4, true) :: (5, true) :: (6, true) :: (7, true) :: (8, false) :: (9, true) :: (10, true) :: (11, true) :: []) (by kernel_rfl) FB.refl fb_trans (fun _ _ d _ _ h => by cases d <;> exact h) (by kernel_rfl) ?_
  intro ops hops0
  have hops := Lib.hid hops0
  clear hops0
  have HF : FB W0 W0.drew := (FB.refl _).drew
  generalize W0.drew = wF at *
  have HFq := Lib.hid (show FB W6 wF from by rw [← hW0]; exact HF)
  clear hW0 HF
  have HGq := Lib.hid ((HFq.out.block _ (Array.getElem?_eq_some_iff.1 HR6.out).1).trans HR6.out)
  have K1 := Lib.hid (show wF.cell? ⟨gr, 0, none⟩ = some (.int .u64 1) ∧ wF.cell? ⟨gr, 1, none⟩ = some (.int .u64 8) ∧ wF.cell? ⟨gr, 2, none⟩ = some (.int .u64 0) ∧ wF.cell? ⟨gr, 3, none⟩ = some (.int .u64 0) ∧ wF.cell? ⟨gr, 4, none⟩ = some (.int .u64 0) ∧ wF.cell? ⟨gr, 5, none⟩ = some (.int .u64 0) ∧ wF.cell? ⟨gr, 6, none⟩ = some (.int .u64 0) ∧ wF.cell? ⟨gr, 7, none⟩ = some (.int .u64 0) ∧ wF.cell? ⟨gr, 8, none⟩ = some (.int .u64 0) from prow9 HGq.out)
  have HF := FB.refl wF
  repeat (refine sch_take (o := ?_) (v := ?_) (a' := ?_) (at_of hops.out ?_) ?_ (fun W hW => ?_) ?_ ?_; rotate_left 3; (focus (simp only [List.getElem?_toArray, List.getElem?_cons_zero, List.getElem?_cons_succ]; rfl)); (focus (rw [hops.out]; rfl)); (focus (have u0 := FB.cell hW K1.out.1; have u1 := FB.cell hW K1.out.2.1; have u2 := FB.cell hW K1.out.2.2.1; have u3 := FB.cell hW K1.out.2.2.2.1; have u4 := FB.cell hW K1.out.2.2.2.2.1; have u5 := FB.cell hW K1.out.2.2.2.2.2.1; have u6 := FB.cell hW K1.out.2.2.2.2.2.2.1; have u7 := FB.cell hW K1.out.2.2.2.2.2.2.2.1; have u8 := FB.cell hW K1.out.2.2.2.2.2.2.2.2; go_simp; with_reducible rfl)); (focus (simp only [Act.put, List.setIfInBounds_toArray, List.set_cons_zero, List.set_cons_succ]; rfl)))
  (refine sch_call (o := ?_) (f := ?_) (args := ?_) (at_of hops.out ?_) ?_ ?_ ?_; rotate_left 3; (focus (simp only [List.getElem?_toArray, List.getElem?_cons_zero, List.getElem?_cons_succ]; rfl)); (focus (rw [hops.out]; rfl)); (focus (go_simp; constructor <;> with_reducible rfl)); (first | ((with_reducible refine (l6_of1 _).mono ?_); rintro e w7 ⟨rfl, hb⟩; refine ⟨_, rfl, hb, ?_⟩; intro a' ha'; simp only [Act.put, List.setIfInBounds_toArray, List.set_cons_zero, List.set_cons_succ] at ha'; subst ha'; replace HF := HF.call hb; clear hb)))
  have hq : ∀ w, (binOp .eql 29 (.agg #[.int .u64 1, .int .u64 8, .int .u64 0, .int .u64 0, .int .u64 0, .int .u64 0, .int .u64 0, .int .u64 0, .int .u64 0]) (.agg #[.int .u64 1, .int .u64 8, .int .u64 0, .int .u64 0, .int .u64 0, .int .u64 0, .int .u64 0, .int .u64 0, .int .u64 0])).run Try.prog w = .ok (.bool true) w := fun w => by
    have h := rt_eql (rtE 1#64) (rtE 1#64) w
    rw [rtEq_self] at h
    exact h
  repeat (refine sch_take (o := ?_) (v := ?_) (a' := ?_) (at_of hops.out ?_) ?_ (fun W hW => ?_) ?_ ?_; rotate_left 3; (focus (simp only [List.getElem?_toArray, List.getElem?_cons_zero, List.getElem?_cons_succ]; rfl)); (focus (rw [hops.out]; rfl)); (focus (go_simp; with_reducible rfl)); (focus (simp only [Act.put, List.setIfInBounds_toArray, List.set_cons_zero, List.set_cons_succ]; rfl)))
  refine sch_done ?_
  have HE := Lib.hid ((HF6.out.trans HFq.out).trans HF)
  clear hops HF hq
  go_wp2
  go_ret
  exact ⟨rfl, HE.out⟩
end Go.Proofs.Ytihljjfnjclefaa
/- Arguments as they come in, opened: numbers, bytes, lists of numbers. -/
set_option linter.unusedVariables false
set_option linter.unusedSimpArgs false
namespace Go.Proofs.Ytihljjfnjclefaa
open Go.ChangeShapes Go.WideShapes Go.ChangeAt Go.RowKit

theorem own_knob : ownKnob Try.prog.godebug = none := by kernel_rfl
theorem laid_out : laidOutB Try.prog = true := by kernel_rfl

section
variable {H : Type} {enc : TypeId × Value → H} {W : World} {v : Value} {d : DataW H} {p : List MemPlace}

theorem nb_of_int {n : Nat} {x : Int} (h0 : 0 ≤ x) (h1 : x < 2 ^ n) : ∃ b : BitVec n, x = nb b := ⟨BitVec.ofInt n x, (nb_ofInt x h0 h1).symm⟩
theorem wf_u8 {x : Int} (h : (Lit.int .u8 x).wf = true) : ∃ b : BitVec 8, x = nb b := by
  have : 0 ≤ x ∧ x ≤ 255 := by simpa [Lit.wf, IntKind.min, IntKind.max, IntKind.signed, IntKind.bits] using h
  exact nb_of_int this.1 (by omega)
theorem wf_u32 {x : Int} (h : (Lit.int .u32 x).wf = true) : ∃ b : BitVec 32, x = nb b := by
  have : 0 ≤ x ∧ x ≤ 4294967295 := by simpa [Lit.wf, IntKind.min, IntKind.max, IntKind.signed, IntKind.bits] using h
  exact nb_of_int this.1 (by omega)
theorem wf_u64 {x : Int} (h : (Lit.int .u64 x).wf = true) : ∃ b : BitVec 64, x = nb b := by
  have : 0 ≤ x ∧ x ≤ 18446744073709551615 := by simpa [Lit.wf, IntKind.min, IntKind.max, IntKind.signed, IntKind.bits] using h
  exact nb_of_int this.1 (by omega)
theorem wf_i64 {x : Int} (h : (Lit.int .i64 x).wf = true) : -9223372036854775808 ≤ x ∧ x ≤ 9223372036854775807 := by
  simpa [Lit.wf, IntKind.min, IntKind.max, IntKind.signed, IntKind.bits] using h

set_option maxRecDepth 100000 in
/-- A []byte that came in. -/
theorem open_bytes {r : Reach} {b0 : Nat} {base : Nat} {spare : Nat → Bool} {held : Bool} (hv : Value.okWide Try.prog W r b0 22 v) (h : DataW.Trod enc Try.prog W base spare held 22 v d p) :
    ∃ A c xs, v = .slice A (xs : List Byte).length c ∧ xs.length ≤ c ∧ c ≤ maxLen ∧ Rd W A xs := by
  obtain ⟨a, len, cap, rfl⟩ := okWide_slice Try.underlying22 hv
  obtain ⟨fuel, hf⟩ := h
  rcases open_ints Try.underlying22 Try.underlying5 (by kernel_rfl) hf with ⟨hcs, _⟩ | ⟨x, l, c, zs, hcs, _, hl, hm, hz, _, hcell, hwz⟩
  · simp [Value.cells] at hcs
    obtain ⟨rfl, rfl, rfl⟩ := hcs
    exact ⟨none, 0, [], rfl, by simp, by simp [maxLen], Rd.nil _ _⟩
  · simp [Value.cells] at hcs
    obtain ⟨rfl, rfl, rfl⟩ := hcs
    have hlz : len ≤ zs.length := by rw [hz]; split <;> omega
    refine ⟨some x, cap, (zs.take len).map (BitVec.ofInt 8), ?_, ?_, hm, ?_⟩
    · simp [Nat.min_eq_left hlz]
    · simp [Nat.min_eq_left hlz, hl]
    · intro i hi
      simp only [vbs_length, List.length_map, List.length_take, Nat.min_eq_left hlz] at hi
      obtain ⟨b, off, rfl, hc⟩ := ints_at hcell (by omega)
      refine ⟨b, off, rfl, ?_⟩
      rw [hc i (by omega)]
      have hmem : zs.getD i 0 ∈ zs := by simp [List.getD, show i < zs.length by omega]
      have hw := hwz _ hmem
      have hb : 0 ≤ zs.getD i 0 ∧ zs.getD i 0 ≤ 255 := by simpa [Lit.wf, IntKind.min, IntKind.max, IntKind.signed, IntKind.bits] using hw
      rw [vbs_get _ _ (by simp; omega)]
      simp only [List.getElem_map, List.getElem_take, vb]
      rw [nb_ofInt _ (by have := hb.1; simp [List.getD, show i < zs.length by omega] at this ⊢; exact this) (by have := hb.2; simp [List.getD, show i < zs.length by omega] at this ⊢; omega)]
      simp [List.getD, show i < zs.length by omega]
set_option maxRecDepth 100000 in
/-- A []int that came in. -/
theorem open_intl {r : Reach} {b0 : Nat} {base : Nat} {spare : Nat → Bool} {held : Bool} (hv : Value.okWide Try.prog W r b0 91 v) (h : DataW.Trod enc Try.prog W base spare held 91 v d p) :
    ∃ A c zs, v = .slice A (zs : List Int).length c ∧ zs.length ≤ c ∧ c ≤ maxLen ∧ RdV W A (zs.map (Value.int .i64)) ∧ ∀ z ∈ zs, -9223372036854775808 ≤ z ∧ z ≤ 9223372036854775807 := by
  obtain ⟨a, len, cap, rfl⟩ := okWide_slice Try.underlying91 hv
  obtain ⟨fuel, hf⟩ := h
  rcases open_ints Try.underlying91 Try.underlying3 (by kernel_rfl) hf with ⟨hcs, _⟩ | ⟨x, l, c, zs, hcs, _, hl, hm, hz, _, hcell, hwz⟩
  · simp [Value.cells] at hcs
    obtain ⟨rfl, rfl, rfl⟩ := hcs
    exact ⟨none, 0, [], rfl, by simp, by simp [maxLen], RdV.nil _ _, by simp⟩
  · simp [Value.cells] at hcs
    obtain ⟨rfl, rfl, rfl⟩ := hcs
    have hlz : len ≤ zs.length := by rw [hz]; split <;> omega
    refine ⟨some x, cap, zs.take len, ?_, ?_, hm, ?_, ?_⟩
    · simp [Nat.min_eq_left hlz]
    · simp [Nat.min_eq_left hlz, hl]
    · intro i hi
      simp only [List.length_map, List.length_take, Nat.min_eq_left hlz] at hi
      obtain ⟨b, off, rfl, hc⟩ := ints_at hcell (by omega)
      refine ⟨b, off, rfl, ?_⟩
      rw [hc i (by omega)]
      simp [List.getD, show i < zs.length by omega]
    · intro z hz'
      exact wf_i64 (hwz z (List.mem_of_mem_take hz'))
end

end Go.Proofs.Ytihljjfnjclefaa
/- A root as it comes in, opened. -/
set_option linter.unusedVariables false
set_option linter.unusedSimpArgs false
namespace Go.Proofs.Ytihljjfnjclefaa
open Go.ChangeShapes Go.WideShapes Go.ChangeAt Go.RowKit

theorem array9 {α : Type} {cs : Array α} (h : cs.size = 9) : ∃ c0 c1 c2 c3 c4 c5 c6 c7 c8, cs = #[c0, c1, c2, c3, c4, c5, c6, c7, c8] := by
  obtain ⟨l⟩ := cs
  match l, h with
  | [c0, c1, c2, c3, c4, c5, c6, c7, c8], _ => exact ⟨c0, c1, c2, c3, c4, c5, c6, c7, c8, rfl⟩
theorem list6 {α : Type} {l : List α} (h : l.length = 6) : ∃ a b c d e f, l = [a, b, c, d, e, f] := by
  match l, h with
  | [a, b, c, d, e, f], _ => exact ⟨a, b, c, d, e, f, rfl⟩
theorem list4 {α : Type} {l : List α} (h : l.length = 4) : ∃ a b c d, l = [a, b, c, d] := by
  match l, h with
  | [a, b, c, d], _ => exact ⟨a, b, c, d, rfl⟩
section
variable {H : Type} {enc : TypeId × Value → H} {W : World} {v : Value} {d : DataW H} {p : List MemPlace}
set_option maxRecDepth 100000 in
theorem open_w64 {base : Nat} {spare : Nat → Bool} {held : Bool} {n : Nat} {c : Value} {y : DataW H × List MemPlace} (h : DataW.trod enc Try.prog W base spare held n 26 [c] = some y) : ∃ x : BitVec 64, c = .int .u64 (nb x) := by
  obtain ⟨z, e, -, w⟩ := DataW.trod_int Try.underlying26 h
  simp only [List.cons.injEq, and_true] at e
  obtain ⟨x, rfl⟩ := wf_u64 w
  exact ⟨x, e⟩
theorem cells64 : Try.prog.cellsOf 26 = 1 := by kernel_rfl
theorem cells64x4 : Try.prog.cellsOf 27 = 4 := by kernel_rfl
theorem cellsRt : Try.prog.cellsOf 29 = 9 := by kernel_rfl
theorem under4 : Try.prog.underlying 27 = some (.array 4 26) := by kernel_rfl
set_option maxRecDepth 100000 in
theorem open_root {r : Reach} {b0 : Nat} {base : Nat} {spare : Nat → Bool} {held : Bool} (hv : Value.okWide Try.prog W r b0 29 v) (h : DataW.Trod enc Try.prog W base spare held 29 v d p) :
    ∃ s : Rt, v = rtV s := by
  obtain ⟨cs, rfl, hsz⟩ := okWide_struct Try.underlying29 hv
  obtain ⟨c0, c1, c2, c3, c4, c5, c6, c7, c8, rfl⟩ := array9 (hsz.trans cellsRt)
  obtain ⟨fuel, hf⟩ := h
  obtain ⟨xs, n, _, hx, hl, hlen, hfs⟩ := DataW.trod_struct Try.underlying29 hf
  obtain ⟨y0, y1, y2, y3, y4, y5, rfl⟩ := list6 hlen
  have h0 := hfs 0 _ rfl
  have h1 := hfs 1 _ rfl
  have h2 := hfs 2 _ rfl
  have h3 := hfs 3 _ rfl
  have h4 := hfs 4 _ rfl
  have h5 := hfs 5 _ rfl
  simp [Value.cells, cells64, cells64x4] at h0 h1 h2 h3 h4 h5
  obtain ⟨zs, m, _, _, _, hzl, hzs⟩ := DataW.trod_array under4 h5
  obtain ⟨z0, z1, z2, z3, rfl⟩ := list4 hzl
  have g0 := hzs 0 (by omega)
  have g1 := hzs 1 (by omega)
  have g2 := hzs 2 (by omega)
  have g3 := hzs 3 (by omega)
  simp [cells64] at g0 g1 g2 g3
  obtain ⟨x0, rfl⟩ := open_w64 h0
  obtain ⟨x1, rfl⟩ := open_w64 h1
  obtain ⟨x2, rfl⟩ := open_w64 h2
  obtain ⟨x3, rfl⟩ := open_w64 h3
  obtain ⟨x4, rfl⟩ := open_w64 h4
  obtain ⟨x5, rfl⟩ := open_w64 g0
  obtain ⟨x6, rfl⟩ := open_w64 g1
  obtain ⟨x7, rfl⟩ := open_w64 g2
  obtain ⟨x8, rfl⟩ := open_w64 g3
  exact ⟨⟨x0, x1, x2, x3, x4, x5, x6, x7, x8⟩, rfl⟩
end
end Go.Proofs.Ytihljjfnjclefaa
