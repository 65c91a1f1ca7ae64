/- Walks and laws that the claim's last text stands on, several texts in one file: RtM, TwoI, RowC, RowRs. Under the hypotheses that each theorem states. -/
import Derived.Lib.SmallJoins
import Derived.Deep.Slices
import Derived.Test.YtihljjfnjclefaaMRta
import Derived.Test.YtihljjfnjclefaaMRtb
import Derived.Test.YtihljjfnjclefaaMRtc
import Derived.Test.YtihljjfnjclefaaMRtd
import Derived.Test.YtihljjfnjclefaaMRte
import Derived.Test.YtihljjfnjclefaaMRtf
import Derived.Test.YtihljjfnjclefaaMRtg
import Derived.Test.YtihljjfnjclefaaMRth
import Derived.Test.YtihljjfnjclefaaMRti
import Derived.Test.YtihljjfnjclefaaMRtj
import Derived.Test.YtihljjfnjclefaaMRtk
import Derived.Test.YtihljjfnjclefaaMRtl
import Derived.Test.YtihljjfnjclefaaMRootDiska
import Derived.Test.YtihljjfnjclefaaMRootDiskb
import Derived.Test.YtihljjfnjclefaaMRootDiskc
import Derived.Test.YtihljjfnjclefaaMRootDiskd
import Derived.Test.YtihljjfnjclefaaMRootDiske
import Derived.Test.YtihljjfnjclefaaMRootDiskf
/- root: the reference's Write and Find. -/
set_option linter.unusedVariables false
set_option linter.unusedSimpArgs false
namespace Go.Proofs.Ytihljjfnjclefaa
open Go.ChangeShapes Go.WideShapes Go.ChangeAt Go.RowKit
attribute [local go_sem] nb_nonneg nb_lt8 nb_lt64
set_option maxRecDepth 100000

theorem r6_SlotU (r : Rt) (w : World) : Calls Try.prog 22 #[.agg #[.int .u64 (nb r.E), .int .u64 (nb r.P), .int .u64 (nb r.T), .int .u64 (nb r.S), .int .u64 (nb r.L), .int .u64 (nb r.a), .int .u64 (nb r.b), .int .u64 (nb r.c), .int .u64 (nb r.d)]] w fun e w' => e = .returned (.int .i64 (rtSlot r : Nat)) ∧ FB w w' := r6_Slot r w
theorem fdEnd_irr1 (x y z : Rt) (p : Bool) (D : DiskSt) : fdEnd x y p false D = fdEnd x z p false D := by
  unfold fdEnd rtCh
  cases p <;> rfl
theorem fdEnd_irr0 (x y z : Rt) (q : Bool) (D : DiskSt) : fdEnd x z false q D = fdEnd y z false q D := by
  unfold fdEnd rtCh
  cases q <;> rfl
theorem fdFrom1_irr (n : Nat) (x y : Rt) (D : DiskSt) : fdFrom1 n x false D = fdFrom1 n y false D := by
  unfold fdFrom1
  rw [fdEnd_irr0 x y _ true, fdEnd_irr0 x y _ false]
set_option maxHeartbeats 2000000 in
theorem r6_Write {w : World} {F : List Nat} {g n : Nat} {D : DiskSt} (h : RDsk w F g n D) (r : Rt) :
    Calls Try.prog 28 #[.pointer (some ⟨g, 0, none⟩), rtV r] w fun e w' => e = .returned (.int .i64 (rtW D n r).1) ∧ RRes w F g n (rtW D n r).2 w' := by
  obtain ⟨R, hR⟩ : ∃ R, R = rtW D n r := ⟨_, rfl⟩
  rw [← hR]
  unfold rtW at hR
  have HR := Lib.hid hR
  have HLT := Lib.hid h.lt
  have hn1 := h.ok.n1
  have hn2 := h.ok.n2
  obtain ⟨W1, hW1⟩ : ∃ W1 : World, W1 = w.alloc (.cells (rtCs r) 29) := ⟨_, rfl⟩
  have HF := Lib.hid (show FB w W1 from by rw [hW1]; exact (FB.refl w).alloc _)
  have HG := Lib.hid (show W1.heap[w.heap.size]? = some (.cells (rtCs r) 29 (0, 0)) from by rw [hW1]; exact heap_alloc_new w _)
  have HD := Lib.hid (h.fb HF.out)
  have HW1 := Lib.hid hW1
  have HWN := Lib.hid (show IntKind.u64.wrap ((n / 8 : Nat) : Int) = ((n / 8 : Nat) : Int) from by rw [wrap_u64]; omega)
  have HPB := Lib.hid (show (r.P.toNat = n / 8 ↔ nb r.P = ((n / 8 : Nat) : Int)) from by unfold nb; omega)
  unfold rtV
  clear hR hW1 h hn1 hn2
  go_enter Try.func28, Try.ntmps28
  go_upto_region 1 with fail
  rw [← HW1.out]
  clear HW1
  obtain ⟨q0, q1, q2, q3, q4, q5, q6, q7, q8⟩ := prow9 HG.out
  have hcb := r6_Bytes r W1
  unfold rtV rtCs at hcb
  generalize hyb : rtB r = yb at *
  obtain ⟨ys, eb⟩ := yb
  have HYB := Lib.hid hyb
  have HC := Lib.hid hcb
  clear hcb hyb
  go_wp2_with fail
  refine HC.out.mono ?_
  rintro e w2 ⟨A2, c2, rfl, ho, hb⟩
  simp only at ho
  have HO2 := Lib.hid ho
  have HF2 := Lib.hid (HF.out.trans hb)
  have HG2 := Lib.hid ((hb.block _ (Array.getElem?_eq_some_iff.1 HG.out).1).trans HG.out)
  have HD2 := Lib.hid (HD.out.fb hb)
  have HH2 := Lib.hid (show w.heap.size ≤ W1.heap.size from HF.out.le)
  clear ho hb HC q0 q1 q2 q3 q4 q5 q6 q7 q8 HG HD HF
  rcases rtB_len HYB.out with ⟨rfl, hyl, hok⟩ | ⟨rfl, rfl, hok⟩
  · rw [hok, if_pos rfl] at HR
    have HYL := Lib.hid hyl
    clear hok hyl
    go_upto_region 2 with fail
    obtain ⟨W0, hW0⟩ : ∃ W0 : World, W0 = w2 := ⟨_, rfl⟩
    rw [← hW0]
    refine region_sch (E := FB) ((0, true) :: (1, true) :: (2, true) :: (3, true) :: (4, true) :: (5, true) :: (6, false) :: (7, true) :: (8, true) :: (9, true) :: []) (by kernel_rfl) FB.refl fb_trans (fun _ _ d _ _ h => by cases d <;> exact h) (by kernel_rfl) ?_
    intro ops hops0
    have hops := Lib.hid hops0
    clear hops0
    have HF : FB W0 W0.drew := (FB.refl _).drew
    generalize W0.drew = wF at *
    have HFq := Lib.hid (show FB w2 wF from by rw [← hW0]; exact HF)
    clear hW0 HF
    have HG3 := Lib.hid ((HFq.out.block _ (Array.getElem?_eq_some_iff.1 HG2.out).1).trans HG2.out)
    have K1 := Lib.hid (prow9 HG3.out)
    have HD3 := Lib.hid (HD2.out.fb HFq.out)
    have HO3 := Lib.hid (FB.own HFq.out HO2.out)
    have HF3 := Lib.hid (HF2.out.trans HFq.out)
    have HF := FB.refl wF
    repeat (refine sch_take (o := ?_) (v := ?_) (a' := ?_) (at_of hops.out ?_) ?_ (fun W hW => ?_) ?_ ?_; rotate_left 3; (focus (simp only [List.getElem?_toArray, List.getElem?_cons_zero, List.getElem?_cons_succ]; rfl)); (focus (rw [hops.out]; rfl)); (focus (have u1 := FB.cell hW K1.out.2.1; go_simp; with_reducible rfl)); (focus (simp only [Act.put, List.setIfInBounds_toArray, List.set_cons_zero, List.set_cons_succ]; rfl)))
    (refine sch_call (o := ?_) (f := ?_) (args := ?_) (at_of hops.out ?_) ?_ ?_ ?_; rotate_left 3; (focus (simp only [List.getElem?_toArray, List.getElem?_cons_zero, List.getElem?_cons_succ]; rfl)); (focus (rw [hops.out]; rfl)); (focus (go_simp; constructor <;> with_reducible rfl)); (first | ((with_reducible refine (r5_Pages (HD3.out.fb HF)).mono ?_); rintro e w' ⟨rfl, rfl⟩; refine ⟨_, rfl, FB.refl _, ?_⟩; intro a' ha'; simp only [Act.put, List.setIfInBounds_toArray, List.set_cons_zero, List.set_cons_succ] at ha'; subst ha')))
    have hwn := HWN.out
    generalize n / 8 = m at *
    by_cases hp : r.P.toNat = m
    · have hpb : (nb r.P != (m : Int)) = false := by rw [HPB.out.1 hp]; simp
      rw [if_pos hp] at HR
      clear hp
      repeat (refine sch_take (o := ?_) (v := ?_) (a' := ?_) (at_of hops.out ?_) ?_ (fun W hW => ?_) ?_ ?_; rotate_left 3; (focus (simp only [List.getElem?_toArray, List.getElem?_cons_zero, List.getElem?_cons_succ]; rfl)); (focus (rw [hops.out]; rfl)); (focus (go_simp; with_reducible rfl)); (focus (simp only [Act.put, List.setIfInBounds_toArray, List.set_cons_zero, List.set_cons_succ]; rfl)))
      refine sch_done ?_
      clear hops HF
      obtain ⟨q0, q1, q2, q3, q4, q5, q6, q7, q8⟩ := prow9 HG3.out
      have hcs := r6_Slot r wF
      unfold rtV rtCs at hcs
      have HC := Lib.hid hcs
      clear hcs
      go_wp2_with fail
      refine HC.out.mono ?_
      rintro e w4 ⟨rfl, hb⟩
      have HD4 := Lib.hid (HD3.out.fb hb)
      have HO4 := Lib.hid (FB.own hb HO3.out)
      have HF4 := Lib.hid (HF3.out.trans hb)
      have HI := Lib.hid (Own.info HO4.out)
      clear hb q0 q1 q2 q3 q4 q5 q6 q7 q8 HC
      have hcv := r5_Save HD4.out (rtSlot r : Nat) A2 c2 ys (by rw [HYL.out]; omega) HI.out.1 HI.out.2.2.1 (fun ad ha hm => by have h1 := (HI.out.2.2.2.2 ad ha).1; have h2 := HLT.out _ hm; have := HH2.out; omega)
      rw [← HR.out] at hcv
      have HC := Lib.hid hcv
      clear hcv
      go_wp2_with fail
      refine HC.out.mono ?_
      rintro e w5 ⟨rfl, F2, hf2, hd, ht⟩
      have HE := Lib.hid (show RRes w F g n R.2 w5 from ⟨F2, fun x hx => (hf2 x hx).imp id (fun k => Nat.le_trans HF4.out.le k), hd, (TS.of HF4.out).then ht⟩)
      clear hf2 hd ht
      go_wp2
      go_ret
      exact ⟨rfl, HE.out⟩
    · have hpb : (nb r.P != (m : Int)) = true := by simpa using fun e => hp (HPB.out.2 e)
      rw [if_neg hp] at HR
      clear hp
      repeat (refine sch_take (o := ?_) (v := ?_) (a' := ?_) (at_of hops.out ?_) ?_ (fun W hW => ?_) ?_ ?_; rotate_left 3; (focus (simp only [List.getElem?_toArray, List.getElem?_cons_zero, List.getElem?_cons_succ]; rfl)); (focus (rw [hops.out]; rfl)); (focus (go_simp; with_reducible rfl)); (focus (simp only [Act.put, List.setIfInBounds_toArray, List.set_cons_zero, List.set_cons_succ]; rfl)))
      refine sch_done ?_
      clear hops HF
      go_wp2
      go_ret
      rw [HR.out]
      exact ⟨rfl, F, fun x hx => .inl hx, HD3.out, TS.of HF3.out⟩
  · rw [hok, if_neg (by decide)] at HR
    clear hok
    go_upto_region 2 with fail
    obtain ⟨W0, hW0⟩ : ∃ W0 : World, W0 = w2 := ⟨_, rfl⟩
    rw [← hW0]
    refine region_sch (E := FB) ((0, true) :: (1, true) :: (2, true) :: (3, true) :: (4, true) :: (5, true) :: (6, false) :: (7, true) :: (8, true) :: (9, true) :: []) (by kernel_rfl) FB.refl fb_trans (fun _ _ d _ _ h => by cases d <;> exact h) (by kernel_rfl) ?_
    intro ops hops0
    have hops := Lib.hid hops0
    clear hops0
    have HF : FB W0 W0.drew := (FB.refl _).drew
    generalize W0.drew = wF at *
    have HFq := Lib.hid (show FB w2 wF from by rw [← hW0]; exact HF)
    clear hW0 HF
    have HD3 := Lib.hid (HD2.out.fb HFq.out)
    have HF3 := Lib.hid (HF2.out.trans HFq.out)
    repeat (first | (refine sch_take (o := ?_) (v := ?_) (a' := ?_) (at_of hops.out ?_) ?_ (fun W hW => ?_) ?_ ?_; rotate_left 3; (focus (simp only [List.getElem?_toArray, List.getElem?_cons_zero, List.getElem?_cons_succ]; rfl)); (focus (rw [hops.out]; rfl)); (focus (go_simp; with_reducible rfl)); (focus (simp only [Act.put, List.setIfInBounds_toArray, List.set_cons_zero, List.set_cons_succ]; rfl))) | (refine sch_skip (o := ?_) (a' := ?_) FB.refl (at_of hops.out ?_) ?_ ?_ ?_; rotate_left 2; (focus (simp only [List.getElem?_toArray, List.getElem?_cons_zero, List.getElem?_cons_succ]; rfl)); (focus (rw [hops.out]; rfl)); (focus (simp only [Act.put, List.setIfInBounds_toArray, List.set_cons_zero, List.set_cons_succ]; rfl))))
    refine sch_done ?_
    clear hops
    go_wp2
    go_ret
    rw [HR.out]
    exact ⟨rfl, F, fun x hx => .inl hx, HD3.out, TS.of HF3.out⟩
/-- What stands in memory between the rounds. -/
structure RFdSt (w W : World) (F : List Nat) (g n N gT gI : Nat) (x0 x1 : Rt) (p0 p1 : Bool) (D : DiskSt) : Prop where
  dsk : RDsk W F g n D
  ts : TS F w W
  rN : W.heap[N]? = some (.cells (rtCs rt0) 29 (0, 0))
  rT : W.heap[gT]? = some (.cells (rt2 x0 x1) 79 (0, 0))
  rI : W.heap[gI]? = some (.cells #[.bool p0, .bool p1] 80 (0, 0))
  lt : ∀ x ∈ F, x < N
  le : w.heap.size ≤ N
  nt : N < gT
  ti : gT < gI
theorem RFdSt.step {w W W' : World} {F : List Nat} {g n N gT gI : Nat} {x0 x1 : Rt} {p0 p1 : Bool} {D D' : DiskSt} (h : RFdSt w W F g n N gT gI x0 x1 p0 p1 D) (k : TS F W W') (hd : RDsk W' F g n D') : RFdSt w W' F g n N gT gI x0 x1 p0 p1 D' :=
  have hb : ∀ {b : Nat} {o : Obj}, W.heap[b]? = some o → b ∉ F → W'.heap[b]? = some o := fun {b o} h1 h2 => (k.block b (Array.getElem?_eq_some_iff.1 h1).1 h2).trans h1
  have h1 := h.nt
  have h2 := h.ti
  ⟨hd, h.ts.then k, hb h.rN (fun hm => by have := h.lt _ hm; omega), hb h.rT (fun hm => by have := h.lt _ hm; omega), hb h.rI (fun hm => by have := h.lt _ hm; omega), h.lt, h.le, h.nt, h.ti⟩
theorem RFdSt.fb {w W W' : World} {F : List Nat} {g n N gT gI : Nat} {x0 x1 : Rt} {p0 p1 : Bool} {D : DiskSt} (h : RFdSt w W F g n N gT gI x0 x1 p0 p1 D) (k : FB W W') : RFdSt w W' F g n N gT gI x0 x1 p0 p1 D := h.step (TS.of k) (h.dsk.fb k)
theorem RFdSt.setT {w W : World} {F : List Nat} {g n N gT gI : Nat} {x0 x1 y0 y1 : Rt} {p0 p1 : Bool} {D : DiskSt} (h : RFdSt w W F g n N gT gI x0 x1 p0 p1 D) : RFdSt w (W.setRow gT (rt2 y0 y1)) F g n N gT gI y0 y1 p0 p1 D :=
  have h1 := h.nt
  have h2 := h.ti
  have k := TS.tb (F := [gT]) (TB.setRow gT W (rt2 y0 y1)) (by simp)
  ⟨h.dsk.ts k (fun x hx hm => by simp at hx; have := h.lt _ hm; omega), h.ts.trans k (fun x hx => .inr (by simp at hx; have := h.le; omega)), (setRow_other W gT N _ (by omega)).trans h.rN, setRow_heap _ _ _ _ _ _ h.rT, (setRow_other W gT gI _ (by omega)).trans h.rI, h.lt, h.le, h.nt, h.ti⟩
theorem RFdSt.storeT {w W : World} {F : List Nat} {g n N gT gI : Nat} {x0 x1 : Rt} {p0 p1 : Bool} {D : DiskSt} (h : RFdSt w W F g n N gT gI x0 x1 p0 p1 D) (r : Rt) :
    (∃ W', (Instr.storeAt 29 (.pointer (some ⟨gT, 0, none⟩)) (rtV r)).run Try.prog W = .ok () W' ∧ RFdSt w W' F g n N gT gI r x1 p0 p1 D) ∧ (∃ W', (Instr.storeAt 29 (.pointer (some ⟨gT, 9, none⟩)) (rtV r)).run Try.prog W = .ok () W' ∧ RFdSt w W' F g n N gT gI x0 r p0 p1 D) :=
  ⟨⟨_, (rt2_store h.rT r).1, h.setT⟩, ⟨_, (rt2_store h.rT r).2, h.setT⟩⟩
theorem RFdSt.setI {w W : World} {F : List Nat} {g n N gT gI : Nat} {x0 x1 : Rt} {p0 p1 : Bool} {D : DiskSt} (h : RFdSt w W F g n N gT gI x0 x1 p0 p1 D) (q : Bool) : RFdSt w (W.setCell ⟨gI, 0, none⟩ (.bool q)) F g n N gT gI x0 x1 q p1 D ∧ RFdSt w (W.setCell ⟨gI, 1, none⟩ (.bool q)) F g n N gT gI x0 x1 p0 q D := by
  have h1 := h.nt
  have h2 := h.ti
  have k := fun i => TS.tb (F := [gI]) (TB.set (g := gI) W i (.bool q)) (by simp)
  have d := fun i => h.dsk.ts (k i) (fun x hx hm => by simp at hx; have := h.lt _ hm; omega)
  have t := fun i => h.ts.trans (k i) (fun x hx => .inr (by simp at hx; have := h.le; omega))
  have r := fun i (b : Nat) (o : Obj) (hb : W.heap[b]? = some o) (hn : b < gI) => ((k i).block b (Array.getElem?_eq_some_iff.1 hb).1 (by simp; omega)).trans hb
  refine ⟨⟨d 0, t 0, r 0 _ _ h.rN (by omega), r 0 _ _ h.rT (by omega), ?_, h.lt, h.le, h.nt, h.ti⟩, ⟨d 1, t 1, r 1 _ _ h.rN (by omega), r 1 _ _ h.rT (by omega), ?_, h.lt, h.le, h.nt, h.ti⟩⟩
  · rw [heap_setCell_same _ _ 0 _ _ _ h.rI]; rfl
  · rw [heap_setCell_same _ _ 1 _ _ _ h.rI]; rfl
theorem RFdSt.end {w W : World} {F : List Nat} {g n N gT gI : Nat} {x0 x1 : Rt} {p0 p1 : Bool} {D : DiskSt} (h : RFdSt w W F g n N gT gI x0 x1 p0 p1 D) (r : Rt) : RDsk (W.setRow N (rtCs r)) F g n D ∧ TS F w (W.setRow N (rtCs r)) ∧ (W.setRow N (rtCs r)).heap[N]? = some (.cells (rtCs r) 29 (0, 0)) :=
  have k := TS.tb (F := [N]) (TB.setRow N W (rtCs r)) (by simp)
  ⟨h.dsk.ts k (fun x hx hm => by simp at hx; have := h.lt _ hm; omega), h.ts.trans k (fun x hx => .inr (by simp at hx; have := h.le; omega)), setRow_heap _ _ _ _ _ _ h.rN⟩
set_option maxHeartbeats 8000000 in
theorem r6_Find {w : World} {F : List Nat} {g n : Nat} {D : DiskSt} (h : RDsk w F g n D) :
    Calls Try.prog 29 #[.pointer (some ⟨g, 0, none⟩)] w fun e w' => e = .returned (.tuple #[rtV (rtFd D n).1.1, .int .i64 (rtFd D n).1.2]) ∧ RDsk w' F g n (rtFd D n).2 ∧ TS F w w' := by
  obtain ⟨R, hR⟩ : ∃ R, R = rtFd D n := ⟨_, rfl⟩
  rw [← hR]
  unfold rtFd at hR
  have hn1 := h.ok.n1
  have hn2 := h.ok.n2
  have HLT := Lib.hid h.lt
  obtain ⟨W1, hW1⟩ : ∃ W1 : World, W1 = w.alloc (.cells (rtCs rt0) 29) := ⟨_, rfl⟩
  have HF1 := Lib.hid (show FB w W1 from by rw [hW1]; exact (FB.refl w).alloc _)
  have HN1 := Lib.hid (show W1.heap[w.heap.size]? = some (.cells (rtCs rt0) 29 (0, 0)) from by rw [hW1]; exact heap_alloc_new w _)
  have HD1 := Lib.hid (h.fb HF1.out)
  have HW1 := Lib.hid hW1
  obtain ⟨m, hm⟩ : ∃ m : Nat, m = n / 8 := ⟨_, rfl⟩
  have HM := Lib.hid hm
  have hcp := r5_Pages HD1.out
  rw [← hm] at hcp
  have HCP := Lib.hid hcp
  have hwn : IntKind.u64.wrap (m : Int) = (m : Int) := by rw [wrap_u64]; omega
  have hgr0 : rtGreat n = (decide (8 ≤ m) && decide (m ≤ 4096)) := by unfold rtGreat; rw [hm]
  clear hW1 h hn1 hn2 hcp hm
  cases hgr : rtGreat n with
  | false =>
    rw [hgr, if_neg (by decide)] at hR
    have HR := Lib.hid hR
    have hs0 := rt_store rt0 rt0 HN1.out
    unfold rtV at hs0
    rw [rt0_cs] at hs0
    have HE := Lib.hid (show RDsk (W1.setRow w.heap.size (rtCs rt0)) F g n D ∧ TS F w (W1.setRow w.heap.size (rtCs rt0)) ∧ (W1.setRow w.heap.size (rtCs rt0)).heap[w.heap.size]? = some (.cells (rtCs rt0) 29 (0, 0)) from
      have k := TS.tb (F := [w.heap.size]) (TB.setRow w.heap.size W1 (rtCs rt0)) (by simp)
      ⟨HD1.out.ts k (fun x hx hm => by simp at hx; have := HLT.out _ hm; omega), (TS.of HF1.out).trans k (fun x hx => .inr (by simp at hx; omega)), setRow_heap _ _ _ _ _ _ HN1.out⟩)
    have hlt : (m : Int) < 8 ∨ (¬ (m : Int) < 8 ∧ 4096 < (m : Int)) := by
      rw [hgr] at hgr0
      by_cases h1 : 8 ≤ m
      · by_cases h2 : m ≤ 4096
        · rw [decide_eq_true h1, decide_eq_true h2] at hgr0; cases hgr0
        · right; omega
      · left; omega
    clear hgr hgr0 hR hwn
    rcases hlt with h1 | ⟨h1, h2⟩
    · go_enter Try.func29, Try.ntmps29
      go_upto_region 1 with fail
      rw [← rt0_cs, ← HW1.out]
      clear HW1
      go_wp2_with fail
      refine HCP.out.mono ?_
      rintro e w1 ⟨rfl, rfl⟩
      go_wp2_with (refine wpList_store_by rfl _ _ _ rfl _ hs0 ?_)
      try simp only [Exit.inBlock, Exit.then]
      refine bodyPost_ret (rt_ret rfl _ w.heap.size rfl _ HE.out.2.2) rfl ?_
      rw [HR.out]
      exact ⟨rfl, HE.out.1, HE.out.2.1⟩
    · go_enter Try.func29, Try.ntmps29
      go_upto_region 1 with fail
      rw [← rt0_cs, ← HW1.out]
      clear HW1
      go_wp2_with fail
      refine HCP.out.mono ?_
      rintro e w1 ⟨rfl, rfl⟩
      go_wp2_with (refine wpList_store_by rfl _ _ _ rfl _ hs0 ?_)
      try simp only [Exit.inBlock, Exit.then]
      refine bodyPost_ret (rt_ret rfl _ w.heap.size rfl _ HE.out.2.2) rfl ?_
      rw [HR.out]
      exact ⟨rfl, HE.out.1, HE.out.2.1⟩
  | true =>
    rw [hgr, if_pos rfl] at hR
    have HR := Lib.hid hR
    have h1 : ¬ (m : Int) < 8 := by
      rw [hgr] at hgr0
      have := hgr0.symm
      simp only [Bool.and_eq_true, decide_eq_true_eq] at this
      omega
    have h2 : ¬ 4096 < (m : Int) := by
      rw [hgr] at hgr0
      have := hgr0.symm
      simp only [Bool.and_eq_true, decide_eq_true_eq] at this
      omega
    clear hgr hgr0 hR
    go_enter Try.func29, Try.ntmps29
    go_upto_region 1 with fail
    rw [← rt0_cs, ← HW1.out]
    clear HW1
    go_wp2_with fail
    refine HCP.out.mono ?_
    rintro e w1 ⟨rfl, rfl⟩
    obtain ⟨W3, hW3⟩ : ∃ W3 : World, W3 = (W1.alloc (.cells (rt2 rt0 rt0) 79)).alloc (.cells #[.bool false, .bool false] 80) := ⟨_, rfl⟩
    have HS3 := Lib.hid (show RFdSt w W3 F g n w.heap.size W1.heap.size (W1.heap.size + 1) rt0 rt0 false false D from by
      have f1 := (FB.refl W1).alloc (.cells (rt2 rt0 rt0) 79)
      have f2 := (FB.refl (W1.alloc (.cells (rt2 rt0 rt0) 79))).alloc (.cells #[.bool false, .bool false] 80)
      have hb := FB.block (f1.trans f2) _ (Array.getElem?_eq_some_iff.1 HN1.out).1
      rw [hW3]
      refine ⟨HD1.out.fb (f1.trans f2), TS.of (HF1.out.trans (f1.trans f2)), hb.trans HN1.out, ?_, ?_, HLT.out, Nat.le_refl _, (Array.getElem?_eq_some_iff.1 HN1.out).1, by omega⟩
      · rw [f2.block _ (by simp)]; exact heap_alloc_new _ _
      · have := heap_alloc_new (W1.alloc (.cells (rt2 rt0 rt0) 79)) (.cells #[.bool false, .bool false] 80)
        simpa using this)
    have HW3 := Lib.hid hW3
    clear hW3
    go_upto_region 6 with fail
    rw [← rt2_zero, ← HW3.out]
    clear HW3 HD1 HN1 HF1 h1 h2
    generalize W1.heap.size + 1 = gI at *
    generalize W1.heap.size = gT at *
    go_wp2_with fail
    go_loopw [7, 8, 9] (fun i _ _ wr => ∃ (k : Nat) (x0 x1 : Rt) (p0 p1 : Bool) (D' : DiskSt), k ≤ 2 ∧ i = .int .i64 k ∧ Hid (RFdSt w wr F g n w.heap.size gT gI x0 x1 p0 p1 D') ∧ Hid (k = 0 → x1 = rt0 ∧ p1 = false ∧ x0 = rt0 ∧ p0 = false ∧ R = fdFrom0 n D') ∧ Hid (k = 1 → x1 = rt0 ∧ p1 = false ∧ R = fdFrom1 n x0 p0 D') ∧ Hid (k = 2 → R = fdEnd x0 x1 p0 p1 D')) (fun i _ _ _ => 2 - (intOf i).toNat)
    case atStart => exact ⟨0, rt0, rt0, false, false, D, by omega, rfl, HS3, Lib.hid (fun _ => ⟨rfl, rfl, rfl, rfl, HR.out⟩), Lib.hid (fun h => by omega), Lib.hid (fun h => by omega)⟩
    case round =>
      obtain ⟨k, x0, x1, p0, p1, D', hk, rfl, HS, H0, H1, H2⟩ := hrel
      clear HS3 HR
      rcases (show k = 0 ∨ k = 1 ∨ k = 2 by omega) with rfl | rfl | rfl
      · obtain ⟨rfl, rfl, rfl, rfl, hr⟩ := H0.out rfl
        have HR := Lib.hid hr
        clear hr H0 H1 H2
        have hcl := r5_LoadC HS.out.dsk 0
        have HLL := Lib.hid (show (sdLoad D' n 0).1.length ≤ 4096 from sdLoad_len HS.out.dsk.ok 0)
        unfold fdFrom0 at HR
        generalize sdLoad D' n 0 = ld at *
        obtain ⟨b, eb, D2⟩ := ld
        have HC := Lib.hid hcl
        clear hcl
        go_wp2_with fail
        refine HC.out.mono ?_
        rintro e w4 ⟨A4, c4, rfl, hrb, -, hd, ht, hlc, hlm⟩
        try simp only at hrb
        try simp only at hd
        try simp only at hlc
        try simp only at HR
        try simp only at HLL
        have HS4 := Lib.hid (HS.out.step ht hd)
        have HB4 := Lib.hid (And.intro hrb (And.intro hlc hlm))
        clear hrb hd ht hlc hlm HC HS
        by_cases heb : eb = 0
        · subst heb
          rw [if_pos rfl] at HR
          have hcr := r6_Read b A4 c4 w4 (by have := HLL.out; omega) HB4.out.2.1 HB4.out.2.2 HB4.out.1
          generalize rtR b = rr at *
          obtain ⟨s, es⟩ := rr
          unfold rtV rtCs at hcr
          try simp only at hcr
          have HC := Lib.hid hcr
          clear hcr
          go_wp2_with fail
          refine HC.out.mono ?_
          rintro e w5 ⟨rfl, hb⟩
          have HS5 := Lib.hid (HS4.out.fb hb)
          obtain ⟨W9, hst, hs9⟩ := (HS5.out.storeT s).1
          have HS9 := Lib.hid (show RFdSt w W9 F g n w.heap.size gT gI s rt0 false false D2 from hs9)
          unfold rtV rtCs at hst
          clear hb hs9 HC HS4 HB4 HLL HS5
          go_upto_region 13 with (refine wpList_store_by rfl _ _ _ rfl _ hst ?_)
          clear hst
          have qr := rt2_rows HS9.out.rT
          have qi := row2 HS9.out.rI
          have fi := frozen_row _ HS9.out.rI 0
          by_cases hes : es = 0
          · subst hes
            have HC := Lib.hid (r6_SlotU s W9)
            go_wp2_with fail
            refine HC.out.mono ?_
            rintro e w7 ⟨rfl, hb⟩
            have HSB := Lib.hid (HS9.out.fb hb)
            clear hb HC HS9 qr qi fi
            have qr := rt2_rows HSB.out.rT
            have qi := row2 HSB.out.rI
            have fi := frozen_row _ HSB.out.rI 0
            by_cases hsl : rtSlot s = 0
            · have hsb : ((rtSlot s : Nat) : Int) = 0 := by omega
              rw [hsb]
              by_cases hp : s.P.toNat = m
              · have hpb : (nb s.P == (m : Int)) = true := by rw [show nb s.P = (m : Int) from by unfold nb; omega]; simp
                rw [show fdS (s, 0) 0 n = true from by unfold fdS; rw [decide_eq_true hsl, decide_eq_true (hp.trans HM.out)]; rfl, if_pos rfl] at HR
                have HSA := Lib.hid (HSB.out.setI true).1
                clear hp hsl hsb
                go_wp2_with fail
                go_round
                case rel => exact ⟨1, s, rt0, true, false, D2, by omega, rfl, HSA, Lib.hid (fun h => by omega), Lib.hid (fun _ => ⟨rfl, rfl, HR.out⟩), Lib.hid (fun h => by omega)⟩
                case measure => simp [intOf]
              · have hpb : (nb s.P == (m : Int)) = false := by simpa [nb] using fun e => hp (by omega)
                rw [show fdS (s, 0) 0 n = false from by unfold fdS; rw [decide_eq_false (show ¬ (s.P.toNat = n / 8) from fun e => hp (e.trans HM.out.symm)), Bool.and_false], if_neg (by decide)] at HR
                have HSA := Lib.hid (HSB.out.setI false).1
                clear hp hsl hsb
                go_wp2_with fail
                go_round
                case rel => exact ⟨1, s, rt0, false, false, D2, by omega, rfl, HSA, Lib.hid (fun h => by omega), Lib.hid (fun _ => ⟨rfl, rfl, HR.out.trans (fdFrom1_irr n rt0 s D2)⟩), Lib.hid (fun h => by omega)⟩
                case measure => simp [intOf]
            · have hsb : (((rtSlot s : Nat) : Int) == 0) = false := by simpa using fun e => hsl (by omega)
              rw [show fdS (s, 0) 0 n = false from by unfold fdS; rw [decide_eq_false hsl, Bool.and_false, Bool.false_and], if_neg (by decide)] at HR
              have HSA := Lib.hid (HSB.out.setI false).1
              clear hsl
              generalize rtSlot s = sl at *
              go_wp2_with fail
              go_round
              case rel => exact ⟨1, s, rt0, false, false, D2, by omega, rfl, HSA, Lib.hid (fun h => by omega), Lib.hid (fun _ => ⟨rfl, rfl, HR.out.trans (fdFrom1_irr n rt0 s D2)⟩), Lib.hid (fun h => by omega)⟩
              case measure => simp [intOf]
          · have hkb : (es == 0) = false := by simpa using hes
            rw [show fdS (s, es) 0 n = false from by unfold fdS; rw [decide_eq_false hes, Bool.false_and, Bool.false_and], if_neg (by decide)] at HR
            have HSA := Lib.hid (HS9.out.setI false).1
            clear hes
            go_wp2_with fail
            go_round
            case rel => exact ⟨1, s, rt0, false, false, D2, by omega, rfl, HSA, Lib.hid (fun h => by omega), Lib.hid (fun _ => ⟨rfl, rfl, HR.out.trans (fdFrom1_irr n rt0 s D2)⟩), Lib.hid (fun h => by omega)⟩
            case measure => simp [intOf]
        · have hbb : (eb != 0) = true := by simpa using heb
          rw [if_neg heb] at HR
          have hs0 := rt_store rt0 rt0 HS4.out.rN
          unfold rtV at hs0
          rw [rt0_cs] at hs0
          have HE := Lib.hid (HS4.out.end rt0)
          clear heb
          go_wp2_with (refine wpList_store_by rfl _ _ _ rfl _ hs0 ?_)
          try simp only [Exit.inBlock, Exit.then]
          refine bodyPost_ret (rt_ret rfl _ w.heap.size rfl _ HE.out.2.2) rfl ?_
          rw [HR.out]
          exact ⟨rfl, HE.out.1, HE.out.2.1⟩
      · obtain ⟨rfl, rfl, hr⟩ := H1.out rfl
        have HR := Lib.hid hr
        clear hr H0 H1 H2
        have hcl := r5_LoadC HS.out.dsk 1
        have HLL := Lib.hid (show (sdLoad D' n 1).1.length ≤ 4096 from sdLoad_len HS.out.dsk.ok 1)
        unfold fdFrom1 at HR
        generalize sdLoad D' n 1 = ld at *
        obtain ⟨b, eb, D2⟩ := ld
        have HC := Lib.hid hcl
        clear hcl
        go_wp2_with fail
        refine HC.out.mono ?_
        rintro e w4 ⟨A4, c4, rfl, hrb, -, hd, ht, hlc, hlm⟩
        try simp only at hrb
        try simp only at hd
        try simp only at hlc
        try simp only at HR
        try simp only at HLL
        have HS4 := Lib.hid (HS.out.step ht hd)
        have HB4 := Lib.hid (And.intro hrb (And.intro hlc hlm))
        clear hrb hd ht hlc hlm HC HS
        by_cases heb : eb = 0
        · subst heb
          rw [if_pos rfl] at HR
          have hcr := r6_Read b A4 c4 w4 (by have := HLL.out; omega) HB4.out.2.1 HB4.out.2.2 HB4.out.1
          generalize rtR b = rr at *
          obtain ⟨s, es⟩ := rr
          unfold rtV rtCs at hcr
          try simp only at hcr
          have HC := Lib.hid hcr
          clear hcr
          go_wp2_with fail
          refine HC.out.mono ?_
          rintro e w5 ⟨rfl, hb⟩
          have HS5 := Lib.hid (HS4.out.fb hb)
          obtain ⟨W9, hst, hs9⟩ := (HS5.out.storeT s).2
          have HS9 := Lib.hid (show RFdSt w W9 F g n w.heap.size gT gI x0 s p0 false D2 from hs9)
          unfold rtV rtCs at hst
          clear hb hs9 HC HS4 HB4 HLL HS5
          go_upto_region 13 with (refine wpList_store_by rfl _ _ _ rfl _ hst ?_)
          clear hst
          have qr := rt2_rows HS9.out.rT
          have qi := row2 HS9.out.rI
          have fi := frozen_row _ HS9.out.rI 1
          by_cases hes : es = 0
          · subst hes
            have HC := Lib.hid (r6_SlotU s W9)
            go_wp2_with fail
            refine HC.out.mono ?_
            rintro e w7 ⟨rfl, hb⟩
            have HSB := Lib.hid (HS9.out.fb hb)
            clear hb HC HS9 qr qi fi
            have qr := rt2_rows HSB.out.rT
            have qi := row2 HSB.out.rI
            have fi := frozen_row _ HSB.out.rI 1
            by_cases hsl : rtSlot s = 1
            · have hsb : ((rtSlot s : Nat) : Int) = 1 := by omega
              rw [hsb]
              by_cases hp : s.P.toNat = m
              · have hpb : (nb s.P == (m : Int)) = true := by rw [show nb s.P = (m : Int) from by unfold nb; omega]; simp
                rw [show fdS (s, 0) 1 n = true from by unfold fdS; rw [decide_eq_true hsl, decide_eq_true (hp.trans HM.out)]; rfl, if_pos rfl] at HR
                have HSA := Lib.hid (HSB.out.setI true).2
                clear hp hsl hsb
                go_wp2_with fail
                go_round
                case rel => exact ⟨2, x0, s, p0, true, D2, by omega, rfl, HSA, Lib.hid (fun h => by omega), Lib.hid (fun h => by omega), Lib.hid (fun _ => HR.out)⟩
                case measure => simp [intOf]
              · have hpb : (nb s.P == (m : Int)) = false := by simpa [nb] using fun e => hp (by omega)
                rw [show fdS (s, 0) 1 n = false from by unfold fdS; rw [decide_eq_false (show ¬ (s.P.toNat = n / 8) from fun e => hp (e.trans HM.out.symm)), Bool.and_false], if_neg (by decide)] at HR
                have HSA := Lib.hid (HSB.out.setI false).2
                clear hp hsl hsb
                go_wp2_with fail
                go_round
                case rel => exact ⟨2, x0, s, p0, false, D2, by omega, rfl, HSA, Lib.hid (fun h => by omega), Lib.hid (fun h => by omega), Lib.hid (fun _ => HR.out.trans (fdEnd_irr1 x0 rt0 s p0 D2))⟩
                case measure => simp [intOf]
            · have hsb : (((rtSlot s : Nat) : Int) == 1) = false := by simpa using fun e => hsl (by omega)
              rw [show fdS (s, 0) 1 n = false from by unfold fdS; rw [decide_eq_false hsl, Bool.and_false, Bool.false_and], if_neg (by decide)] at HR
              have HSA := Lib.hid (HSB.out.setI false).2
              clear hsl
              generalize rtSlot s = sl at *
              go_wp2_with fail
              go_round
              case rel => exact ⟨2, x0, s, p0, false, D2, by omega, rfl, HSA, Lib.hid (fun h => by omega), Lib.hid (fun h => by omega), Lib.hid (fun _ => HR.out.trans (fdEnd_irr1 x0 rt0 s p0 D2))⟩
              case measure => simp [intOf]
          · have hkb : (es == 0) = false := by simpa using hes
            rw [show fdS (s, es) 1 n = false from by unfold fdS; rw [decide_eq_false hes, Bool.false_and, Bool.false_and], if_neg (by decide)] at HR
            have HSA := Lib.hid (HS9.out.setI false).2
            clear hes
            go_wp2_with fail
            go_round
            case rel => exact ⟨2, x0, s, p0, false, D2, by omega, rfl, HSA, Lib.hid (fun h => by omega), Lib.hid (fun h => by omega), Lib.hid (fun _ => HR.out.trans (fdEnd_irr1 x0 rt0 s p0 D2))⟩
            case measure => simp [intOf]
        · have hbb : (eb != 0) = true := by simpa using heb
          rw [if_neg heb] at HR
          have hs0 := rt_store rt0 rt0 HS4.out.rN
          unfold rtV at hs0
          rw [rt0_cs] at hs0
          have HE := Lib.hid (HS4.out.end rt0)
          clear heb
          go_wp2_with (refine wpList_store_by rfl _ _ _ rfl _ hs0 ?_)
          try simp only [Exit.inBlock, Exit.then]
          refine bodyPost_ret (rt_ret rfl _ w.heap.size rfl _ HE.out.2.2) rfl ?_
          rw [HR.out]
          exact ⟨rfl, HE.out.1, HE.out.2.1⟩
      · have hr := H2.out rfl
        have HR := Lib.hid hr
        clear hr H0 H1 H2
        obtain ⟨⟨q0, q1, q2, q3, q4, q5, q6, q7, q8⟩, r0, r1, r2, r3, r4, r5, r6, r7, r8⟩ := rt2_rows HS.out.rT
        obtain ⟨i0, i1⟩ := row2 HS.out.rI
        have hcc := r6_Choose x0 x1 p0 p1 wr
        unfold fdEnd at HR
        unfold rtV rtCs at hcc
        have HRT := Lib.hid (rtCh_rt0 x0 x1 p0 p1)
        generalize rtCh x0 x1 p0 p1 = ch at *
        obtain ⟨s, ok⟩ := ch
        have HC := Lib.hid hcc
        clear hcc
        go_wp2_with fail
        refine HC.out.mono ?_
        rintro e w5 ⟨rfl, hb⟩
        obtain ⟨W6, hW6⟩ : ∃ W6 : World, W6 = w5.alloc (.cells (rtCs s) 29) := ⟨_, rfl⟩
        have HS6 := Lib.hid (show RFdSt w W6 F g n w.heap.size gT gI x0 x1 p0 p1 D' from by rw [hW6]; exact (HS.out.fb hb).fb ((FB.refl w5).alloc _))
        have HG6 := Lib.hid (show W6.heap[w5.heap.size]? = some (.cells (rtCs s) 29 (0, 0)) from by rw [hW6]; exact heap_alloc_new w5 _)
        unfold rtCs at hW6
        have HW6 := Lib.hid hW6
        clear hW6 hb HC HS q0 q1 q2 q3 q4 q5 q6 q7 q8 r0 r1 r2 r3 r4 r5 r6 r7 r8 i0 i1
        try simp only
        try simp only at HR
        cases ok with
        | false =>
          have HSZ := Lib.hid (show s = rt0 from HRT.out rfl)
          have hs0 := rt_store rt0 rt0 HS6.out.rN
          unfold rtV at hs0
          rw [rt0_cs] at hs0
          have HE := Lib.hid (HS6.out.end rt0)
          go_upto_region 15 with fail
          rw [← HW6.out]
          clear HW6
          go_wp2_with (refine wpList_store_by rfl _ _ _ rfl _ hs0 ?_)
          try simp only [Exit.inBlock, Exit.then]
          refine bodyPost_ret (rt_ret rfl _ w.heap.size rfl _ HE.out.2.2) rfl ?_
          rw [HR.out, HSZ.out]
          exact ⟨rfl, HE.out.1, HE.out.2.1⟩
        | true =>
          obtain ⟨q0, q1, q2, q3, q4, q5, q6, q7, q8⟩ := prow9 HG6.out
          have hst := rt_store rt0 s HS6.out.rN
          unfold rtV rtCs at hst
          have HE := Lib.hid (HS6.out.end s)
          go_upto_region 15 with fail
          rw [← HW6.out]
          clear HW6
          go_wp2_with (refine wpList_store_by rfl _ _ _ rfl _ hst ?_)
          try simp only [Exit.inBlock, Exit.then]
          refine bodyPost_ret (rt_ret rfl _ w.heap.size rfl _ HE.out.2.2) rfl ?_
          rw [HR.out]
          exact ⟨rfl, HE.out.1, HE.out.2.1⟩
end Go.Proofs.Ytihljjfnjclefaa
/- A disk and the reference's disk, side by side: each step, and which blocks come in; roots that are written and found on both. -/
set_option linter.unusedVariables false
set_option linter.unusedSimpArgs false
namespace Go.Proofs.Ytihljjfnjclefaa
open Go.ChangeShapes Go.WideShapes Go.ChangeAt Go.RowKit
set_option maxRecDepth 100000

theorem TS.wide {F F' : List Nat} {w w' : World} (h : TS F w w') (hs : ∀ x ∈ F, x ∈ F') : TS F' w w' := ⟨h.os, h.tape, h.output, h.size, fun k hk hn => h.block k hk (fun m => hn (hs k m))⟩
section
variable {w0 w w' : World} {F G : List Nat} {g h n : Nat} {D D2 D' : DiskSt}
theorem Two.setD (t : Two w0 w F g G h n D D2) (hd : Dsk w' F g n D') (ht : TS F w w') : Two w0 w' F g G h n D' D2 :=
  ⟨⟨hd, t.dw.fb.ts ht t.dw.own, t.dw.own⟩, t.rd.ts ht t.dj, t.own, t.dj⟩
theorem Two.setR (t : Two w0 w F g G h n D D2) (hd : RDsk w' G h n D') (ht : TS G w w') : Two w0 w' F g G h n D D' :=
  have hj : ∀ x ∈ G, x ∉ F := fun x hx hf => t.dj x hf hx
  ⟨⟨t.dw.dsk.ts ht hj, t.dw.fb.ts ht t.own, t.dw.own⟩, hd, t.own, t.dj⟩
end
end Go.Proofs.Ytihljjfnjclefaa
/- A crash as it comes in, opened. -/
set_option linter.unusedVariables false
set_option linter.unusedSimpArgs false
namespace Go.Proofs.Ytihljjfnjclefaa
open Go.ChangeShapes Go.WideShapes Go.ChangeAt Go.RowKit Go.Deep

section
variable {H : Type} {enc : TypeId × Value → H} {W : World} {v : Value} {d : DataW H} {p : List MemPlace}
set_option maxRecDepth 100000 in
theorem open_boolsC {base : Nat} {spare : Nat → Bool} {held : Bool} {n : Nat} {y : DataW H × List MemPlace} (hf : DataW.trod enc Try.prog W base spare held n 50 [v] = some y) :
    ∃ A c xs, v = .slice A (xs : List Bool).length c ∧ xs.length ≤ c ∧ c ≤ maxLen ∧ RdV W A (xs.map .bool) := by
  rcases open_slice1 Try.underlying50 (by kernel_rfl) hf with ⟨hcs, _⟩ | ⟨a, len, cap, m, nn, V, D, Pl, hcs, _, hl, hm, hmm, _, hx⟩
  · simp at hcs
    subst hcs
    exact ⟨none, 0, [], rfl, by simp, by simp [maxLen], RdV.nil _ _⟩
  · simp at hcs
    subst hcs
    have hlm : len ≤ m := by rw [hmm]; split <;> omega
    obtain ⟨B, hB⟩ := choose_lt (α := Bool) (p := fun i b => W.cell? (a.add i) = some (.bool b)) (n := len) (fun i hi => by
      obtain ⟨h1, h2⟩ := hx i (by omega)
      obtain ⟨b, e1, e2⟩ := DataW.trod_bool Try.underlying4 h2
      simp only [List.cons.injEq, and_true] at e1
      exact ⟨b, by rw [h1, e1]⟩)
    refine ⟨some a, cap, (List.range len).map B, by simp, by simpa using hl, hm, fun i hi => ?_⟩
    simp only [List.length_map, List.length_range] at hi
    obtain ⟨b, off, spot⟩ := a
    have hspot : spot = none := by simpa [Addr.add] using World.cell?_spot (hB 0 (by omega))
    subst hspot
    have := hB i hi
    rw [add_plain] at this
    exact ⟨b, off, rfl, by rw [this]; simp⟩
set_option maxRecDepth 100000 in
theorem open_crash {r : Reach} {b0 : Nat} {base : Nat} {spare : Nat → Bool} {held : Bool} (hv : Value.okWide Try.prog W r b0 52 v) (h : DataW.Trod enc Try.prog W base spare held 52 v d p) :
    ∃ A c ks t y, v = .agg #[.slice A (ks : List Bool).length c, .int .i64 t, .int .i64 y] ∧ ks.length ≤ c ∧ c ≤ maxLen ∧ RdV W A (ks.map .bool) ∧ (-9223372036854775808 ≤ t ∧ t ≤ 9223372036854775807) ∧ (-9223372036854775808 ≤ y ∧ y ≤ 9223372036854775807) := by
  obtain ⟨v0, v1, v2, y0, y1, y2, n, rfl, -, -, h0, h1, h2⟩ := Go.Joins.open_agg3 Try.underlying52 (by kernel_rfl) (by kernel_rfl) hv h
  obtain ⟨A, c, ks, rfl, k1, k2, k3⟩ := open_boolsC h0
  obtain ⟨z1, e1, -, w1⟩ := DataW.trod_int Try.underlying3 h1
  obtain ⟨z2, e2, -, w2⟩ := DataW.trod_int Try.underlying3 h2
  simp only [List.cons.injEq, and_true] at e1 e2
  subst e1 e2
  exact ⟨A, c, ks, z1, z2, rfl, k1, k2, k3, wf_i64 w1, wf_i64 w2⟩
end
end Go.Proofs.Ytihljjfnjclefaa
/- A slice of roots as it comes in, opened. -/
set_option linter.unusedVariables false
set_option linter.unusedSimpArgs false
namespace Go.Proofs.Ytihljjfnjclefaa
open Go.ChangeShapes Go.WideShapes Go.ChangeAt Go.RowKit Go.Deep

/-- Roots in a row. -/
def RdRs (w : World) (A : Option Addr) (ls : List Rt) : Prop := ∀ i (h : i < ls.length), ∃ b o, A = some ⟨b, o, none⟩ ∧ ∀ j, j < 9 → w.cell? ⟨b, o + i * 9 + j, none⟩ = some ((rtCs ls[i]).getD j undef)
theorem RdRs.fb {w w' : World} {A : Option Addr} {ls : List Rt} (h : RdRs w A ls) (k : FB w w') : RdRs w' A ls := fun i hi => by
  obtain ⟨b, o, e, h1⟩ := h i hi
  exact ⟨b, o, e, fun j hj => k.cell (h1 j hj)⟩
section
variable {H : Type} {enc : TypeId × Value → H} {W : World} {v : Value} {d : DataW H} {p : List MemPlace}
set_option maxRecDepth 100000 in
/-- A root's cells, opened. -/
theorem open_rootC {base : Nat} {spare : Nat → Bool} {held : Bool} {n : Nat} {cs : List Value} {y : DataW H × List MemPlace} (hf : DataW.trod enc Try.prog W base spare held n 29 cs = some y) : ∃ s : Rt, cs = (rtCs s).toList := by
  obtain ⟨xs, n', _, hx, hl, hlen, hfs⟩ := DataW.trod_struct Try.underlying29 hf
  rw [cellsRt] at hl
  obtain ⟨c0, c1, c2, c3, c4, c5, c6, c7, c8, hcs⟩ := array9 (cs := cs.toArray) (by simpa using hl)
  obtain rfl : cs = [c0, c1, c2, c3, c4, c5, c6, c7, c8] := by have := congrArg Array.toList hcs; simpa using this
  obtain ⟨y0, y1, y2, y3, y4, y5, rfl⟩ := list6 hlen
  have h0 := hfs 0 _ rfl
  have h1 := hfs 1 _ rfl
  have h2 := hfs 2 _ rfl
  have h3 := hfs 3 _ rfl
  have h4 := hfs 4 _ rfl
  have h5 := hfs 5 _ rfl
  simp [cells64, cells64x4] at h0 h1 h2 h3 h4 h5
  obtain ⟨zs, m, _, _, _, hzl, hzs⟩ := DataW.trod_array under4 h5
  obtain ⟨z0, z1, z2, z3, rfl⟩ := list4 hzl
  have g0 := hzs 0 (by omega)
  have g1 := hzs 1 (by omega)
  have g2 := hzs 2 (by omega)
  have g3 := hzs 3 (by omega)
  simp [cells64] at g0 g1 g2 g3
  obtain ⟨x0, rfl⟩ := open_w64 h0
  obtain ⟨x1, rfl⟩ := open_w64 h1
  obtain ⟨x2, rfl⟩ := open_w64 h2
  obtain ⟨x3, rfl⟩ := open_w64 h3
  obtain ⟨x4, rfl⟩ := open_w64 h4
  obtain ⟨x5, rfl⟩ := open_w64 g0
  obtain ⟨x6, rfl⟩ := open_w64 g1
  obtain ⟨x7, rfl⟩ := open_w64 g2
  obtain ⟨x8, rfl⟩ := open_w64 g3
  exact ⟨⟨x0, x1, x2, x3, x4, x5, x6, x7, x8⟩, rfl⟩
set_option maxRecDepth 100000 in
theorem open_roots {r : Reach} {b0 : Nat} {base : Nat} {spare : Nat → Bool} {held : Bool} (hv : Value.okWide Try.prog W r b0 49 v) (h : DataW.Trod enc Try.prog W base spare held 49 v d p) :
    ∃ A c ls, v = .slice A (ls : List Rt).length c ∧ ls.length ≤ c ∧ c ≤ maxLen ∧ RdRs W A ls := by
  obtain ⟨a, len, cap, rfl⟩ := okWide_slice Try.underlying49 hv
  obtain ⟨fuel, hf⟩ := h
  rcases open_slice Try.underlying49 hf with ⟨hcs, _⟩ | ⟨x, l, c, m, nn, D, Pl, hcs, _, hl, hm, hmm, _, hel⟩
  · simp [Value.cells] at hcs
    obtain ⟨rfl, rfl, rfl⟩ := hcs
    exact ⟨none, 0, [], rfl, by simp, by simp [maxLen], fun i hi => absurd hi (by simp)⟩
  · simp [Value.cells] at hcs
    obtain ⟨rfl, rfl, rfl⟩ := hcs
    have hlm : len ≤ m := by rw [hmm]; split <;> omega
    have each : ∀ i, i < len → ∃ s : Rt, ∀ j, j < 9 → W.cell? ((x.add (i * 9)).add j) = some ((rtCs s).getD j undef) := by
      intro i hi
      obtain ⟨cs', h1, h2⟩ := hel i (by omega)
      obtain ⟨s, rfl⟩ := open_rootC h2
      rw [cellsRt] at h1
      obtain ⟨_, _, hcell⟩ := World.cells?_some h1
      refine ⟨s, fun j hj => ?_⟩
      rw [hcell j hj, Array.getElem?_toList, Array.getD_eq_getD_getElem?, Array.getElem?_eq_getElem (by exact hj)]
      rfl
    have hinh : Inhabited Rt := ⟨rt0⟩
    obtain ⟨q, hq⟩ := choose_lt each
    have hll : ((List.range len).map q).length = len := by simp
    refine ⟨some x, cap, (List.range len).map q, by rw [hll], by rw [hll]; exact hl, hm, fun i hi => ?_⟩
    rw [hll] at hi
    obtain ⟨b, off, spot⟩ := x
    have hspot : spot = none := by
      have h0 := hq 0 (by omega) 0 (by omega)
      have := World.cell?_spot h0
      simpa [Addr.add] using this
    subst hspot
    refine ⟨b, off, rfl, fun j hj => ?_⟩
    have h1 := hq i hi j hj
    rw [add_plain, add_plain] at h1
    rw [h1]
    simp
end
end Go.Proofs.Ytihljjfnjclefaa
