/- space: the walks through New, Use, Give. -/
import Derived.Test.YtjhgnohofcahbaaSpB
set_option linter.unusedVariables false
set_option linter.unusedSimpArgs false
namespace Go.Proofs.Ytjhgnohofcahbaa
open Go.ChangeShapes Go.WideShapes Go.ChangeAt Go.RowKit
set_option maxRecDepth 100000

/-- A space, and an error, that are returned. -/
def SpR (r : Int × List Bool × Int) (w : World) (e : Ending) (w' : World) : Prop :=
  ∃ A c, e = .returned (.tuple #[.agg #[.int .i64 r.1, .slice A r.2.1.length c], .int .i64 r.2.2]) ∧ RdV w' A (r.2.1.map .bool) ∧ r.2.1.length ≤ c ∧ c ≤ maxLen ∧ FB w w'
theorem SpR.none {w w' : World} (x : Int) (h : FB w w') : SpR (0, [], x) w (.returned (.tuple #[.agg #[.int .i64 0, .slice none 0 0], .int .i64 x])) w' := ⟨Option.none, 0, rfl, RdV.nil _ _, by simp, by simp [maxLen], h⟩
theorem SpR.pre {w0 w w' : World} {r : Int × List Bool × Int} {e : Ending} (h : SpR r w e w') (k : FB w0 w) : SpR r w0 e w' := by
  obtain ⟨A, c, h1, h2, h3, h4, h5⟩ := h
  exact ⟨A, c, h1, h2, h3, h4, k.trans h5⟩
def spNew (n : Int) : Int × List Bool × Int := if n < 8 ∨ 4096 < n then (0, [], 2) else (n, true :: true :: List.replicate (n.toNat - 2) false, 0)
def spUse (P : Int) (us : List Bool) (k : Int) : Int × List Bool × Int :=
  if spOk P us = true ∧ 0 ≤ k ∧ k < P then (if us.getD k.toNat false then (0, [], 7) else (P, us.set k.toNat true, 0)) else (0, [], 2)
def spGive (P : Int) (us : List Bool) (k : Int) : Int × List Bool × Int :=
  if spOk P us = true ∧ 2 ≤ k ∧ k < P then (if us.getD k.toNat false then (P, us.set k.toNat false, 0) else (0, [], 6)) else (0, [], 2)
theorem mk_bools (n : Nat) (hn : n ≤ 100000000) : ∃ C : Array Value,
    (∀ W : World, (Instr.makeSlice 39 (.int .i64 (n : Int)) (.int .i64 (n : Int))).run Try.prog W = .ok (.slice (some ⟨W.heap.size, 0, none⟩) n n) (W.alloc (.cells C 4))) ∧
    C = ((List.replicate n false).map Value.bool).toArray := by
  obtain ⟨i, hi, hz, hsz, hb⟩ := info_parts info_b
  refine ⟨madeCells #[.bool false] n, fun W => ?_, ?_⟩
  · have h := run_make (P := Try.prog) W 39 4 i _ Try.underlying39 hi hz .i64 .i64 (n : Int) (n : Int) (by omega) (Int.le_refl _) (by rw [hb]; omega) (by omega)
    rw [hsz] at h
    simpa [Value.cells] using h
  · rw [List.map_replicate, ← toList_madeCells_one]
theorem two_true' (m : Nat) (h : 2 ≤ m) : ((List.replicate m false).set 0 true).set 1 true = true :: true :: List.replicate (m - 2) false := by
  obtain ⟨n, rfl⟩ : ∃ n, m = n + 2 := ⟨m - 2, by omega⟩
  rfl
set_option maxHeartbeats 1000000 in
theorem sp_New (n : Int) (w : World) : Calls Try.prog 33 #[.int .i64 n] w fun e w' => SpR (spNew n) w e w' := by
  unfold spNew
  have HF0 := Lib.hid ((FB.refl w).alloc (.cells #[.int .i64 0, .slice none 0 0] 41))
  by_cases h1 : n < 8
  · rw [if_pos (.inl h1)]
    go_enter Try.func33, Try.ntmps33
    go_wp2
    try simp only [Exit.inBlock, Exit.then]
    refine bodyPost_ret (sp_ret rfl _ w.heap.size rfl _ (heap_alloc_new _ _)) rfl ?_
    exact SpR.none 2 HF0.out
  · by_cases h2 : 4096 < n
    · rw [if_pos (.inr h2)]
      go_enter Try.func33, Try.ntmps33
      go_wp2
      try simp only [Exit.inBlock, Exit.then]
      refine bodyPost_ret (sp_ret rfl _ w.heap.size rfl _ (heap_alloc_new _ _)) rfl ?_
      exact SpR.none 2 HF0.out
    · rw [if_neg (by omega)]
      obtain ⟨m, rfl⟩ : ∃ m : Nat, n = (m : Int) := ⟨n.toNat, by omega⟩
      rw [Int.toNat_natCast]
      obtain ⟨C, hmk, hC⟩ := mk_bools m (by omega)
      have hm1 : 8 ≤ m := by omega
      have hm2 : m ≤ 4096 := by omega
      have HLST := Lib.hid (two_true' m (by omega))
      have HO0 := Lib.hid (show OwnV 4 ((w.alloc (.cells #[.int .i64 0, .slice none 0 0] 41)).alloc (.cells C 4)) (w.heap.size + 1) (.slice (some ⟨w.heap.size + 1, 0, none⟩) m m) ((List.replicate m false).map .bool) from by
        have := OwnV.lit 4 (w.alloc (.cells #[.int .i64 0, .slice none 0 0] 41)) ((List.replicate m false).map .bool) (by rw [List.length_map, List.length_replicate]; simp [maxLen]; omega)
        rw [← hC, List.length_map, List.length_replicate] at this
        simpa using this)
      have HF1 := Lib.hid (HF0.out.alloc (.cells C 4))
      have HSZ := Lib.hid (show ((w.alloc (.cells #[.int .i64 0, .slice none 0 0] 41)).alloc (.cells C 4)).heap.size = w.heap.size + 2 from by simp)
      have HB1 := Lib.hid (show ((w.alloc (.cells #[.int .i64 0, .slice none 0 0] 41)).alloc (.cells C 4)).heap[w.heap.size]? = some (.cells #[.int .i64 0, .slice none 0 0] 41 (0, 0)) from by
        rw [((FB.refl (w.alloc (.cells #[.int .i64 0, .slice none 0 0] 41))).alloc _).block _ (by simp)]; exact heap_alloc_new _ _)
      clear hC
      go_enter Try.func33, Try.ntmps33
      go_wp2_with fail
      clear hmk
      generalize hw1 : (w.alloc (.cells #[.int .i64 0, .slice none 0 0] 41)).alloc (.cells C 4) = w1 at *
      clear hw1
      have HB3 := Lib.hid (show (w1.alloc (.cells #[.int .i64 (m : Int), .slice (some ⟨w.heap.size + 1, 0, none⟩) m m] 41)).heap[w.heap.size + 2]? = some (.cells #[.int .i64 (m : Int), .slice (some ⟨w.heap.size + 1, 0, none⟩) m m] 41 (0, 0)) from by
        rw [← HSZ.out]; exact heap_alloc_new _ _)
      have HB1a := Lib.hid (((FB.refl w1).alloc (.cells #[.int .i64 (m : Int), .slice (some ⟨w.heap.size + 1, 0, none⟩) m m] 41)).block _ (Array.getElem?_eq_some_iff.1 HB1.out).1 |>.trans HB1.out)
      have HO1 := Lib.hid (HO0.out.alloc (.cells #[.int .i64 (m : Int), .slice (some ⟨w.heap.size + 1, 0, none⟩) m m] 41))
      have HF2 := Lib.hid (HF1.out.alloc (.cells #[.int .i64 (m : Int), .slice (some ⟨w.heap.size + 1, 0, none⟩) m m] 41))
      obtain ⟨W2, hW2⟩ : ∃ W2 : World, W2 = w1.alloc (.cells #[.int .i64 (m : Int), .slice (some ⟨w.heap.size + 1, 0, none⟩) m m] 41) := ⟨_, rfl⟩
      rw [← hW2] at HB3 HB1a HO1 HF2 ⊢
      clear hW2
      refine region_sch (E := TS ([w.heap.size + 1])) ((0, true) :: (1, true) :: (2, true) :: (3, true) :: (4, true) :: (5, false) :: (6, true) :: (7, false) :: []) (by kernel_rfl) (TS.refl _) (fun _ _ _ h k => TS.then h k) (fun _ _ d _ _ h => by cases d <;> exact h) (by kernel_rfl) ?_
      intro ops hops0
      have hops := Lib.hid hops0
      clear hops0
      have HF : TS ([w.heap.size + 1]) W2 W2.drew := TS.of (FB.refl _).drew
      have HD : FB W2 W2.drew := (FB.refl _).drew
      generalize W2.drew = wF2 at *
      have HB3b := Lib.hid ((HD.block _ (Array.getElem?_eq_some_iff.1 HB3.out).1).trans HB3.out)
      have HB1b := Lib.hid ((HD.block _ (Array.getElem?_eq_some_iff.1 HB1a.out).1).trans HB1a.out)
      have HO2 := Lib.hid (OwnV.below HO1.out HD)
      have HF3 := Lib.hid (HF2.out.trans HD)
      have HQ := Lib.hid (row2 HB3b.out)
      have hm0 : (0 : Int) < (m : Int) := by omega
      have hm3 : (1 : Int) < (m : Int) := by omega
      have hm4 : 0 < m := by omega
      have hm5 : 1 < m := by omega
      repeat (refine sch_take (o := ?_) (v := ?_) (a' := ?_) (at_of hops.out ?_) ?_ (fun W hW => ?_) ?_ ?_; rotate_left 3; (focus (simp only [List.getElem?_toArray, List.getElem?_cons_zero, List.getElem?_cons_succ]; rfl)); (focus (rw [hops.out]; rfl)); (focus (have u1 := TS.cell hW HQ.out.2 (by simp); go_simp; with_reducible rfl)); (focus (simp only [Act.put, List.setIfInBounds_toArray, List.set_cons_zero, List.set_cons_succ]; rfl)))
      have hc0 := OwnV.cellset HO2.out (j := 0) (by rw [List.length_map, List.length_replicate]; omega)
      have hc1 := OwnV.cellset (hc0.2.2 (.bool true)) (j := 1) (by rw [List.length_set, List.length_map, List.length_replicate]; omega)
      have HO4 := Lib.hid (hc1.2.2 (.bool true))
      have HTS4 := Lib.hid (show TS [w.heap.size + 1] wF2 ((wF2.setCell ⟨w.heap.size + 1, 0, none⟩ (.bool true)).setCell ⟨w.heap.size + 1, 1, none⟩ (.bool true)) from (TS.tb (TB.set wF2 0 _) (by simp)).then (TS.tb (TB.set _ 1 _) (by simp)))
      have HE1 := Lib.hid (show TS [w.heap.size + 1] wF2 (wF2.setCell ⟨w.heap.size + 1, 0, none⟩ (.bool true)) from TS.tb (TB.set wF2 0 _) (by simp))
      have HE2 := Lib.hid (show TS [w.heap.size + 1] (wF2.setCell ⟨w.heap.size + 1, 0, none⟩ (.bool true)) ((wF2.setCell ⟨w.heap.size + 1, 0, none⟩ (.bool true)).setCell ⟨w.heap.size + 1, 1, none⟩ (.bool true)) from TS.tb (TB.set _ 1 _) (by simp))
      have q0 := hc0.1
      have q1 := hc0.2.1
      (refine sch_store (o := ?_) (at_of hops.out ?_) ?_ 4 (.tmp 20) (.const (.bool true)) ?_ ?_ ⟨w.heap.size + 1, 0, none⟩ (.bool true) ?_ ?_ ?_ HE1.out ?_; rotate_left 1; (focus (simp only [List.getElem?_toArray, List.getElem?_cons_zero, List.getElem?_cons_succ]; rfl)); (focus (rw [hops.out]; rfl)); (focus rfl); (focus rfl); (focus rfl); (focus rfl); (focus (go_simp)))
      have q2 := hc1.1
      have q3 := hc1.2.1
      clear q0 q1
      repeat (refine sch_take (o := ?_) (v := ?_) (a' := ?_) (at_of hops.out ?_) ?_ (fun W hW => ?_) ?_ ?_; rotate_left 3; (focus (simp only [List.getElem?_toArray, List.getElem?_cons_zero, List.getElem?_cons_succ]; rfl)); (focus (rw [hops.out]; rfl)); (focus (go_simp; with_reducible rfl)); (focus (simp only [Act.put, List.setIfInBounds_toArray, List.set_cons_zero, List.set_cons_succ]; rfl)))
      (refine sch_store (o := ?_) (at_of hops.out ?_) ?_ 4 (.tmp 21) (.const (.bool true)) ?_ ?_ ⟨w.heap.size + 1, 1, none⟩ (.bool true) ?_ ?_ ?_ HE2.out ?_; rotate_left 1; (focus (simp only [List.getElem?_toArray, List.getElem?_cons_zero, List.getElem?_cons_succ]; rfl)); (focus (rw [hops.out]; rfl)); (focus rfl); (focus rfl); (focus rfl); (focus rfl); (focus (go_simp)))
      refine sch_done ?_
      clear q2 q3 hc0 hc1 hops HF HD
      have HF5 := Lib.hid ((HF3.out.set (p := ⟨w.heap.size + 1, 0, none⟩) (by simp) (.bool true)).set (p := ⟨w.heap.size + 1, 1, none⟩) (by simp) (.bool true))
      have hrow3 := (HTS4.out.block _ (Array.getElem?_eq_some_iff.1 HB3b.out).1 (by simp)).trans HB3b.out
      have hrow1 := (HTS4.out.block _ (Array.getElem?_eq_some_iff.1 HB1b.out).1 (by simp)).trans HB1b.out
      obtain ⟨t0, t1⟩ := row2 hrow3
      have hst := sp_store (.int .i64 (m : Int)) (.slice (some ⟨w.heap.size + 1, 0, none⟩) m m) hrow1 (by simp [Value.oneCell'])
      generalize (wF2.setCell ⟨w.heap.size + 1, 0, none⟩ (.bool true)).setCell ⟨w.heap.size + 1, 1, none⟩ (.bool true) = w5 at *
      have HROW := Lib.hid (setRow_heap w5 w.heap.size _ #[.int .i64 (m : Int), .slice (some ⟨w.heap.size + 1, 0, none⟩) m m] _ _ hrow1)
      have HEND := Lib.hid (HF5.out.setRow (g := w.heap.size) (Nat.le_refl _) #[.int .i64 (m : Int), .slice (some ⟨w.heap.size + 1, 0, none⟩) m m])
      have HOE := Lib.hid (OwnV.info ((TS.tb (F := [w.heap.size]) (TB.setRow w.heap.size w5 #[.int .i64 (m : Int), .slice (some ⟨w.heap.size + 1, 0, none⟩) m m]) (by simp)).ownV HO4.out (fun b hb' hm => by cases hb'; simp at hm)))
      clear hrow3 hrow1
      go_wp2_with (refine wpList_store_by rfl _ _ _ rfl _ hst ?_)
      try simp only [Exit.inBlock, Exit.then]
      refine bodyPost_ret (sp_ret rfl _ w.heap.size rfl _ HROW.out) rfl ?_
      refine ⟨some ⟨w.heap.size + 1, 0, none⟩, m, ?_, ?_, ?_, ?_, HEND.out⟩
      · simp only [List.length_cons, List.length_replicate]
        rw [show m - 2 + 1 + 1 = m by omega]; rfl
      · have := HOE.out.2.2.1
        rw [← HLST.out, List.map_set, List.map_set]
        exact this
      · simp; omega
      · simp [maxLen]; omega
/-- The same; what is returned lies in memory of its own. -/
def SpRF (r : Int × List Bool × Int) (w : World) (e : Ending) (w' : World) : Prop :=
  ∃ A c, e = .returned (.tuple #[.agg #[.int .i64 r.1, .slice A r.2.1.length c], .int .i64 r.2.2]) ∧ RdV w' A (r.2.1.map .bool) ∧ r.2.1.length ≤ c ∧ c ≤ maxLen ∧ FB w w' ∧ ∀ ad, A = some ad → w.heap.size ≤ ad.block ∧ ad.block < w'.heap.size
theorem SpRF.none {w w' : World} (x : Int) (h : FB w w') : SpRF (0, [], x) w (.returned (.tuple #[.agg #[.int .i64 0, .slice none 0 0], .int .i64 x])) w' := ⟨Option.none, 0, rfl, RdV.nil _ _, by simp, by simp [maxLen], h, fun ad ha => by cases ha⟩
theorem SpRF.weak {w w' : World} {r : Int × List Bool × Int} {e : Ending} (h : SpRF r w e w') : SpR r w e w' := by
  obtain ⟨A, c, h1, h2, h3, h4, h5, -⟩ := h
  exact ⟨A, c, h1, h2, h3, h4, h5⟩
set_option maxHeartbeats 1000000 in
theorem sp_UseF (P : Int) (us : List Bool) (A : Option Addr) (c : Nat) (k : Int) (w : World) (hr : RdV w A (us.map .bool)) (hl : us.length ≤ 1000000000) (hc : us.length ≤ c) (hm : c ≤ maxLen) :
    Calls Try.prog 28 #[.agg #[.int .i64 P, .slice A us.length c], .int .i64 k] w fun e w' => SpRF (spUse P us k) w e w' := by
  have HF := Lib.hid (((FB.refl w).alloc (.cells #[.int .i64 P, .slice A us.length c] 41)).alloc (.cells #[.int .i64 0, .slice none 0 0] 41))
  have HR := Lib.hid hr
  have HCK := Lib.hid (sp_Check P us A c ((w.alloc (.cells #[.int .i64 P, .slice A us.length c] 41)).alloc (.cells #[.int .i64 0, .slice none 0 0] 41)) (HF.out.rdV hr) (by omega))
  have HB1 := Lib.hid (show ((w.alloc (.cells #[.int .i64 P, .slice A us.length c] 41)).alloc (.cells #[.int .i64 0, .slice none 0 0] 41)).heap[w.heap.size]? = some (.cells #[.int .i64 P, .slice A us.length c] 41 (0, 0)) from by
    rw [((FB.refl (w.alloc (.cells #[.int .i64 P, .slice A us.length c] 41))).alloc _).block _ (by simp)]; exact heap_alloc_new _ _)
  have HB2 := Lib.hid (show ((w.alloc (.cells #[.int .i64 P, .slice A us.length c] 41)).alloc (.cells #[.int .i64 0, .slice none 0 0] 41)).heap[w.heap.size + 1]? = some (.cells #[.int .i64 0, .slice none 0 0] 41 (0, 0)) from by
    have := heap_alloc_new (w.alloc (.cells #[.int .i64 P, .slice A us.length c] 41)) (.cells #[.int .i64 0, .slice none 0 0] 41)
    simpa using this)
  clear hr
  unfold spUse
  by_cases hok : spOk P us = true
  · have hch : spChk P us = 0 := by unfold spChk; rw [if_pos hok]
    rw [hch] at HCK
    have hP := (spOk_iff.1 hok).2.2.1
    have HOK := Lib.hid hok
    clear hch hok
    by_cases h1 : 0 ≤ k ∧ k < P
    · obtain ⟨kn, rfl⟩ : ∃ kn : Nat, k = (kn : Int) := ⟨k.toNat, by omega⟩
      have hkn : kn < us.length := by omega
      have hkx : (kn : Int) < (us.length : Int) := by omega
      have hkP : (kn : Int) < P := h1.2
      rw [if_pos ⟨HOK.out, h1⟩, Int.toNat_natCast, getD_at hkn]
      have hch0 : ¬ (kn : Int) < 0 := by omega
      obtain ⟨b, o, rfl, hcell0⟩ := RdV.bcell HR.out hkn
      generalize hU : us[kn] = u at *
      clear hU hP h1
      cases u
      · rw [if_neg (by simp)]
        go_enter Try.func28, Try.ntmps28
        go_wp2_with fail
        refine HCK.out.mono ?_
        rintro e w1 ⟨rfl, hb⟩
        have HF1 := Lib.hid (HF.out.trans hb)
        have hrow1 := (hb.block _ (Array.getElem?_eq_some_iff.1 HB1.out).1).trans HB1.out
        have HRW2 := Lib.hid ((hb.block _ (Array.getElem?_eq_some_iff.1 HB2.out).1).trans HB2.out)
        obtain ⟨q0, q1⟩ := row2 hrow1
        have hcell := HF1.out.cell hcell0
        clear hb hrow1 hcell0
        go_wp2_with fail
        refine (sp_with P us _ c kn true _ (HF1.out.rdV HR.out) hl hkn).mono ?_
        rintro e w2 ⟨A2, c2, rfl, ho, hb⟩
        have hrow2 := (hb.block _ (Array.getElem?_eq_some_iff.1 HRW2.out).1).trans HRW2.out
        have hst := sp_store (.int .i64 P) (.slice A2 us.length c2) hrow2 (by simp [Value.oneCell'])
        have HROW := Lib.hid (setRow_heap w2 (w.heap.size + 1) _ #[.int .i64 P, .slice A2 us.length c2] _ _ hrow2)
        have HEND := Lib.hid ((HF1.out.trans hb).setRow (g := w.heap.size + 1) (by omega) #[.int .i64 P, .slice A2 us.length c2])
        have HO := Lib.hid (OwnV.info ((TS.tb (F := [w.heap.size + 1]) (TB.setRow (w.heap.size + 1) w2 #[.int .i64 P, .slice A2 us.length c2]) (by simp)).ownV ho (fun b hb' hm => by
          have h1 := (OwnV.base ho b hb').1
          have h2 := (Array.getElem?_eq_some_iff.1 HRW2.out).1
          simp at hm; omega)))
        clear hb ho hrow2 q0 q1 hcell
        go_wp2_with (refine wpList_store_by rfl _ _ _ rfl _ hst ?_)
        try simp only [Exit.inBlock, Exit.then]
        refine bodyPost_ret (sp_ret rfl _ (w.heap.size + 1) rfl _ HROW.out) rfl ?_
        exact ⟨A2, c2, by simp, HO.out.2.2.1, by have := HO.out.1; simpa using this, HO.out.2.1, HEND.out, fun ad ha => ⟨Nat.le_trans HF1.out.le (HO.out.2.2.2.2 ad ha).1, (HO.out.2.2.2.2 ad ha).2⟩⟩
      · rw [if_pos rfl]
        go_enter Try.func28, Try.ntmps28
        go_wp2_with fail
        refine HCK.out.mono ?_
        rintro e w1 ⟨rfl, hb⟩
        have HF1 := Lib.hid (HF.out.trans hb)
        have hrow1 := (hb.block _ (Array.getElem?_eq_some_iff.1 HB1.out).1).trans HB1.out
        have hrow2 := ((hb.block _ (Array.getElem?_eq_some_iff.1 HB2.out).1).trans HB2.out)
        obtain ⟨q0, q1⟩ := row2 hrow1
        have hcell := HF1.out.cell hcell0
        have hst := sp_store (.int .i64 0) (.slice none 0 0) hrow2 (by simp [Value.oneCell'])
        have HROW := Lib.hid (setRow_heap w1 (w.heap.size + 1) _ #[.int .i64 0, .slice none 0 0] _ _ hrow2)
        have HEND := Lib.hid (HF1.out.setRow (g := w.heap.size + 1) (by omega) #[.int .i64 0, .slice none 0 0])
        clear hb hrow1 hcell0 hrow2
        go_wp2_with (refine wpList_store_by rfl _ _ _ rfl _ hst ?_)
        try simp only [Exit.inBlock, Exit.then]
        refine bodyPost_ret (sp_ret rfl _ (w.heap.size + 1) rfl _ HROW.out) rfl ?_
        exact SpRF.none 7 HEND.out
    · rw [if_neg (fun h => h1 h.2)]
      have hcs : k < 0 ∨ (¬ k < 0 ∧ P ≤ k) := by omega
      clear h1 hP
      rcases hcs with hcs | ⟨hcs, hcs2⟩
      all_goals
        go_enter Try.func28, Try.ntmps28
        go_wp2_with fail
        refine HCK.out.mono ?_
        rintro e w1 ⟨rfl, hb⟩
        have HF1 := Lib.hid (HF.out.trans hb)
        have hrow1 := (hb.block _ (Array.getElem?_eq_some_iff.1 HB1.out).1).trans HB1.out
        have hrow2 := ((hb.block _ (Array.getElem?_eq_some_iff.1 HB2.out).1).trans HB2.out)
        obtain ⟨q0, q1⟩ := row2 hrow1
        have hst := sp_store (.int .i64 0) (.slice none 0 0) hrow2 (by simp [Value.oneCell'])
        have HROW := Lib.hid (setRow_heap w1 (w.heap.size + 1) _ #[.int .i64 0, .slice none 0 0] _ _ hrow2)
        have HEND := Lib.hid (HF1.out.setRow (g := w.heap.size + 1) (by omega) #[.int .i64 0, .slice none 0 0])
        clear hb hrow1 hrow2
        go_wp2_with (refine wpList_store_by rfl _ _ _ rfl _ hst ?_)
        try simp only [Exit.inBlock, Exit.then]
        refine bodyPost_ret (sp_ret rfl _ (w.heap.size + 1) rfl _ HROW.out) rfl ?_
        exact SpRF.none 2 HEND.out
  · rw [if_neg (fun h => hok h.1)]
    have hch : spChk P us = 2 := by unfold spChk; rw [if_neg hok]
    rw [hch] at HCK
    clear hch hok
    go_enter Try.func28, Try.ntmps28
    go_wp2_with fail
    refine HCK.out.mono ?_
    rintro e w1 ⟨rfl, hb⟩
    have HF1 := Lib.hid (HF.out.trans hb)
    have hrow2 := ((hb.block _ (Array.getElem?_eq_some_iff.1 HB2.out).1).trans HB2.out)
    have hst := sp_store (.int .i64 0) (.slice none 0 0) hrow2 (by simp [Value.oneCell'])
    have HROW := Lib.hid (setRow_heap w1 (w.heap.size + 1) _ #[.int .i64 0, .slice none 0 0] _ _ hrow2)
    have HEND := Lib.hid (HF1.out.setRow (g := w.heap.size + 1) (by omega) #[.int .i64 0, .slice none 0 0])
    clear hb hrow2
    go_wp2_with (refine wpList_store_by rfl _ _ _ rfl _ hst ?_)
    try simp only [Exit.inBlock, Exit.then]
    refine bodyPost_ret (sp_ret rfl _ (w.heap.size + 1) rfl _ HROW.out) rfl ?_
    exact SpRF.none 2 HEND.out
theorem sp_Use (P : Int) (us : List Bool) (A : Option Addr) (c : Nat) (k : Int) (w : World) (hr : RdV w A (us.map .bool)) (hl : us.length ≤ 1000000000) (hc : us.length ≤ c) (hm : c ≤ maxLen) :
    Calls Try.prog 28 #[.agg #[.int .i64 P, .slice A us.length c], .int .i64 k] w fun e w' => SpR (spUse P us k) w e w' :=
  (sp_UseF P us A c k w hr hl hc hm).mono fun e w' h => h.weak
end Go.Proofs.Ytjhgnohofcahbaa
