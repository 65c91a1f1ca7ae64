/- the reference of layer 8: Both. -/
import Derived.Test.YtjhgnohofcahbaaRsD
set_option linter.unusedVariables false
set_option linter.unusedSimpArgs false
namespace Go.Proofs.Ytjhgnohofcahbaa
open Go.ChangeShapes Go.WideShapes Go.ChangeAt Go.RowKit
set_option maxRecDepth 100000

def orP (us vs : List Bool) (j : Nat) : List Bool := (List.range j).map fun i => us.getD i false || vs.getD i false
theorem orP_len (us vs : List Bool) (j : Nat) : (orP us vs j).length = j := by simp [orP]
theorem orP_succ (us vs : List Bool) (j : Nat) : orP us vs (j + 1) = orP us vs j ++ [us.getD j false || vs.getD j false] := by simp [orP, List.range_succ]
theorem orP_all {us vs : List Bool} (h : us.length = vs.length) : orP us vs us.length = orL us vs := by
  unfold orP orL orK
  refine List.map_congr_left fun i hi => ?_
  rw [List.mem_range] at hi
  rw [decide_eq_true hi, Bool.true_and]
set_option maxHeartbeats 2000000 in
theorem rs_Both (P Q : Int) (us vs : List Bool) (A B : Option Addr) (ca cb : Nat) (w : World) (hz : us.length ≤ 1000000000) (hy : vs.length ≤ 1000000000) (hra : RdV w A (us.map .bool)) (hrb : RdV w B (vs.map .bool)) :
    Calls Try.prog 40 #[.agg #[.int .i64 P, .slice A us.length ca], .agg #[.int .i64 Q, .slice B vs.length cb]] w fun e w' => SpR (spBoth P us Q vs) w e w' := by
  obtain ⟨hf, hb1, hb2, hb3, hsz⟩ := box222 w (.int .i64 P) (.slice A us.length ca) (.int .i64 Q) (.slice B vs.length cb)
  have HF := Lib.hid hf
  have HRA := Lib.hid (hf.rdV hra)
  have HRB := Lib.hid (hf.rdV hrb)
  have HB1 := Lib.hid hb1
  have HB2 := Lib.hid hb2
  have HB3 := Lib.hid hb3
  have HSZ := Lib.hid hsz
  have HCA := Lib.hid (fun W (h : FB ((((w.alloc (.cells #[.int .i64 P, .slice A us.length ca] 41)).alloc (.cells #[.int .i64 Q, .slice B vs.length cb] 41)).alloc (.cells #[.int .i64 0, .slice none 0 0] 41))) W) => rs_Check P us A ca W (h.rdV HRA.out) (by omega))
  have HCB := Lib.hid (fun W (h : FB ((((w.alloc (.cells #[.int .i64 P, .slice A us.length ca] 41)).alloc (.cells #[.int .i64 Q, .slice B vs.length cb] 41)).alloc (.cells #[.int .i64 0, .slice none 0 0] 41))) W) => rs_Check Q vs B cb W (h.rdV HRB.out) (by omega))
  obtain ⟨q0, q1⟩ := row2 hb1
  obtain ⟨r0, r1⟩ := row2 hb2
  have HRB0 := Lib.hid hrb
  clear hf hb1 hb2 hb3 hra hrb hsz
  unfold spBoth
  by_cases hoa : spOk P us = true
  · have hch : spChk P us = 0 := by unfold spChk; rw [if_pos hoa]
    rw [hch] at HCA
    clear hch
    by_cases hob : spOk Q vs = true
    · have hch : spChk Q vs = 0 := by unfold spChk; rw [if_pos hob]
      rw [hch] at HCB
      clear hch
      by_cases hpq : P = Q
      · rw [if_pos ⟨hoa, hob, hpq⟩]
        have hbe : (P != Q) = false := by simpa using hpq
        have ha := spOk_iff.1 hoa
        have hb := spOk_iff.1 hob
        have hln : us.length = vs.length := by omega
        have HPU := Lib.hid (show P = (us.length : Int) from ha.2.2.1.symm)
        have hl8 : 8 ≤ us.length := by omega
        have HLN := Lib.hid hln
        clear hoa hob hpq ha hb hln
        go_enter Try.func40, Try.ntmps40
        go_wp2_with fail
        generalize ((w.alloc (.cells #[.int .i64 P, .slice A us.length ca] 41)).alloc (.cells #[.int .i64 Q, .slice B vs.length cb] 41)).alloc (.cells #[.int .i64 0, .slice none 0 0] 41) = w0 at *
        refine (HCA.out _ (FB.refl _)).mono ?_
        rintro e w1 ⟨rfl, hb⟩
        have HF1 := Lib.hid hb
        obtain ⟨s0, s1⟩ := row2 ((hb.block _ (Array.getElem?_eq_some_iff.1 HB1.out).1).trans HB1.out)
        obtain ⟨t0, t1⟩ := row2 ((hb.block _ (Array.getElem?_eq_some_iff.1 HB2.out).1).trans HB2.out)
        clear hb q0 q1 r0 r1
        go_wp2_with fail
        refine (HCB.out _ HF1.out).mono ?_
        rintro e w2 ⟨rfl, hb⟩
        have HF2 := Lib.hid (HF1.out.trans hb)
        clear hb s0 s1 t0 t1
        obtain ⟨s0, s1⟩ := row2 ((HF2.out.block _ (Array.getElem?_eq_some_iff.1 HB1.out).1).trans HB1.out)
        obtain ⟨t0, t1⟩ := row2 ((HF2.out.block _ (Array.getElem?_eq_some_iff.1 HB2.out).1).trans HB2.out)
        go_wp2_with fail
        clear s0 s1 t0 t1
        have HF3 := Lib.hid (HF.out.trans HF2.out)
        have HRA2 := Lib.hid (HF2.out.rdV HRA.out)
        have HRB2 := Lib.hid (HF2.out.rdV HRB.out)
        have HX1 := Lib.hid ((HF2.out.block _ (Array.getElem?_eq_some_iff.1 HB1.out).1).trans HB1.out)
        have HX2 := Lib.hid ((HF2.out.block _ (Array.getElem?_eq_some_iff.1 HB2.out).1).trans HB2.out)
        have HX3 := Lib.hid ((HF2.out.block _ (Array.getElem?_eq_some_iff.1 HB3.out).1).trans HB3.out)
        have HGN := Lib.hid (show w.heap.size + 3 ≤ w2.heap.size from by have := HF2.out.le; rw [HSZ.out] at this; exact this)
        have HG0 := Lib.hid (heap_alloc_new w2 (.cells #[.int .i64 P, .slice none 0 0] 41))
        have HGF := Lib.hid ((FB.refl w2).alloc (.cells #[.int .i64 P, .slice none 0 0] 41))
        have HGS := Lib.hid (show w2.heap.size + 1 ≤ (w2.alloc (.cells #[.int .i64 P, .slice none 0 0] 41)).heap.size from by simp)
        have HLU := Lib.hid (show us.length ≤ 1000000000 from hz)
        generalize w2.alloc (.cells #[.int .i64 P, .slice none 0 0] 41) = w3 at *
        obtain ⟨gO, hgO⟩ : ∃ gO, gO = w2.heap.size := ⟨_, rfl⟩
        have HGO := Lib.hid hgO
        rw [← hgO] at HGN HG0 HGS ⊢
        clear hgO hz hy HB1 HB2 HB3 HF1 HF2 HCA HCB HRA HRB HF
        go_loopw [7] (fun c7 wl => ∃ (j : Nat) (v : Value), j ≤ us.length ∧ c7 = .int .i64 j ∧ Hid (FB w2 wl) ∧ Hid (gO + 1 ≤ wl.heap.size) ∧ Hid (wl.heap[gO]? = some (.cells #[.int .i64 P, v] 41 (0, 0))) ∧ Hid (OwnV 4 wl (gO + 1) v ((orP us vs j).map .bool))) (fun c7 wl => us.length - (intOf c7).toNat)
        case atStart => exact ⟨0, .slice none 0 0, by omega, rfl, HGF.out, HGS.out, HG0.out, OwnV.nil _ _ _⟩
        case round =>
          obtain ⟨j, v, hj, rfl, HL, HS, HROWO, HO⟩ := hrel
          have HY1 := Lib.hid ((HL.out.block _ (Array.getElem?_eq_some_iff.1 HX1.out).1).trans HX1.out)
          have HY2 := Lib.hid ((HL.out.block _ (Array.getElem?_eq_some_iff.1 HX2.out).1).trans HX2.out)
          obtain ⟨q0, q1⟩ := row2 HY1.out
          by_cases hlt : j < us.length
          · have hjz : (j : Int) < P := by rw [HPU.out]; omega
            have hjx : (j : Int) < (us.length : Int) := by omega
            have hjv : j < vs.length := by have := HLN.out; omega
            have hjy : (j : Int) < (vs.length : Int) := by omega
            obtain ⟨b1, o1, e1, hc1⟩ := RdV.bcell (HL.out.rdV HRA2.out) hlt
            obtain ⟨b2, o2, e2, hc2⟩ := RdV.bcell (HL.out.rdV HRB2.out) hjv
            subst e1 e2
            rw [← getD_at hlt] at hc1
            rw [← getD_at hjv] at hc2
            have HBA := Lib.hid (show b1 < gO from by
              obtain ⟨kb, ko, e2, hk, -⟩ := RdV.form HRA2.out (by rw [List.length_map]; omega)
              cases e2; rw [HGO.out]; exact hk)
            have HBB := Lib.hid (show b2 < gO from by
              obtain ⟨kb, ko, e2, hk, -⟩ := RdV.form HRB2.out (by rw [List.length_map]; omega)
              cases e2; rw [HGO.out]; exact hk)
            have HOS := Lib.hid (show orP us vs (j + 1) = orP us vs j ++ [us.getD j false || vs.getD j false] from orP_succ us vs j)
            have HOL := Lib.hid (show ((orP us vs j).map Value.bool).length ≤ 1000000000 from by rw [List.length_map, orP_len]; have := HLU.out; omega)
            obtain ⟨x, hx⟩ : ∃ x, x = us.getD j false := ⟨_, rfl⟩
            obtain ⟨y, hy⟩ : ∃ y, y = vs.getD j false := ⟨_, rfl⟩
            rw [← hx] at hc1 HOS
            rw [← hy] at hc2 HOS
            have C1 := Lib.hid hc1
            have C2 := Lib.hid hc2
            have HLT := Lib.hid hlt
            obtain ⟨Av, cv, rfl, -, -, -, -⟩ := OwnV.form HO.out
            rw [List.length_map, orP_len] at HO HROWO
            have hwj : IntKind.i64.wrap ((j : Int) + 1) = (j : Int) + 1 := by rw [IntKind.wrap_i64]; have := HLU.out; omega
            clear hx hy hc1 hc2 hlt hjv
            cases x
            · rw [Bool.false_or] at HOS
              go_wp2_with fail
              clear q0 q1
              obtain ⟨W0, hW0⟩ : ∃ W0 : World, W0 = wr := ⟨_, rfl⟩
              rw [← hW0]
              refine region_schL (E := Below (gO + 1)) 17 ((0, true) :: (1, true) :: (2, true) :: (3, true) :: (4, true) :: (5, true) :: (6, true) :: (7, true) :: (8, true) :: (9, true) :: (10, true) :: (11, true) :: (12, true) :: (13, true) :: (14, false) :: (15, false) :: (16, true) :: []) (by kernel_rfl) (Below.refl _) (fun _ _ _ h k => Below.trans h k) (fun _ _ d _ _ h => by cases d <;> exact h) (by kernel_rfl) ?_
              intro ops hops0
              have hops := Lib.hid hops0
              clear hops0
              have HF : Below (gO + 1) W0 W0.drew := (Below.refl _ _).drew
              have HD : FB W0 W0.drew := (FB.refl _).drew
              generalize W0.drew = wF at *
              have HFq := Lib.hid (show FB wr wF from by rw [← hW0]; exact HD)
              clear hW0 HF HD
              have K1 := Lib.hid (FB.cell HFq.out (row2 HY1.out).2)
              have K2 := Lib.hid (FB.cell HFq.out (row2 HY2.out).2)
              have K3 := Lib.hid (FB.cell HFq.out (row2 HROWO.out).2)
              have K4 := Lib.hid (FB.cell HFq.out C1.out)
              have K5 := Lib.hid (FB.cell HFq.out C2.out)
              have HLE := Lib.hid (show gO + 1 ≤ wF.heap.size from Nat.le_trans HS.out HFq.out.le)
              have HOq := Lib.hid (HFq.out.ownV HO.out)
              have HRq := Lib.hid ((HFq.out.block _ (Array.getElem?_eq_some_iff.1 HROWO.out).1).trans HROWO.out)
              repeat (refine sch_take (o := ?_) (v := ?_) (a' := ?_) (at_of hops.out ?_) ?_ (fun W hW => ?_) ?_ ?_; rotate_left 3; (focus (simp only [List.getElem?_toArray, List.getElem?_cons_zero, List.getElem?_cons_succ]; rfl)); (focus (rw [hops.out]; rfl)); (focus (have u1 := bl_cell hW K1.out (by have := HGN.out; simp; omega); have u2 := bl_cell hW K2.out (by have := HGN.out; simp; omega); have u3 := bl_cell hW K3.out (by simp); have u4 := bl_cell hW K4.out (by have := HBA.out; simp; omega); have u5 := bl_cell hW K5.out (by have := HBB.out; simp; omega); go_simp; with_reducible rfl)); (focus (simp only [Act.put, List.setIfInBounds_toArray, List.set_cons_zero, List.set_cons_succ]; rfl)))
              repeat (refine sch_skip (o := ?_) (a' := ?_) (Below.refl _) (at_of hops.out ?_) ?_ ?_ ?_; rotate_left 2; (focus (simp only [List.getElem?_toArray, List.getElem?_cons_zero, List.getElem?_cons_succ]; rfl)); (focus (rw [hops.out]; rfl)); (focus (simp only [Act.put, List.setIfInBounds_toArray, List.set_cons_zero, List.set_cons_succ]; rfl)))
              repeat (refine sch_take (o := ?_) (v := ?_) (a' := ?_) (at_of hops.out ?_) ?_ (fun W hW => ?_) ?_ ?_; rotate_left 3; (focus (simp only [List.getElem?_toArray, List.getElem?_cons_zero, List.getElem?_cons_succ]; rfl)); (focus (rw [hops.out]; rfl)); (focus (go_simp; with_reducible rfl)); (focus (simp only [Act.put, List.setIfInBounds_toArray, List.set_cons_zero, List.set_cons_succ]; rfl)))
              (refine sch_run (o := ?_) (v := ?_) (a' := ?_) (w' := ?_) (at_of hops.out ?_) ?_ ?_ ?_ ?_ ?_; rotate_left 4; (focus (simp only [List.getElem?_toArray, List.getElem?_cons_zero, List.getElem?_cons_succ]; rfl)); (focus (rw [hops.out]; rfl)); (focus (go_simp; constructor <;> with_reducible rfl)); (focus (exact Below.alloc (Below.refl _ _) HLE.out _)); (focus (simp only [Act.put, List.setIfInBounds_toArray, List.set_cons_zero, List.set_cons_succ]; rfl)))
              (refine sch_append (o := ?_) (at_of hops.out ?_) ?_ (.tmp 34) (.tmp 47) 39 4 1 (.bool false) Try.underlying39 info_b rfl ?_ (gO + 1) _ ((orP us vs j).map .bool) (HOq.out.alloc _) ?_ (some ⟨wF.heap.size, 0, none⟩) 1 1 [.bool y] rfl ?_ (RdV.lit wF [.bool y] 4 rfl) (by simp [Value.oneCell']) (by have := HOL.out; simp [maxLen] at *; omega) (by have := HOL.out; simp at *; omega) (by have := HLE.out; simp; omega) ?_; rotate_left 1; (focus (simp only [List.getElem?_toArray, List.getElem?_cons_zero, List.getElem?_cons_succ]; rfl)); (focus (rw [hops.out]; rfl)); (focus rfl); (focus rfl); (focus rfl))
              intro v' w4 ho hgr hob
              rw [← List.map_singleton, ← List.map_append, ← HOS.out] at ho
              have hlo := fun k hk => (OwnV.base HOq.out k hk).1
              refine ⟨Below.grown (Below.refl _ _) hgr (by have := HLE.out; simp; omega) hlo, ?_⟩
              intro a' ha'; simp only [Act.put, List.setIfInBounds_toArray, List.set_cons_zero, List.set_cons_succ] at ha'; subst ha'
              have hfb := (HL.out.trans HFq.out).alloc (.cells #[.bool y] 4) |>.grown hgr (fun k hk => by have := hlo k hk; have := HGO.out; omega)
              have hrw4 : w4.heap[gO]? = _ := (hgr.block gO (by have := HLE.out; simp; omega) (fun e => by have := hlo gO e.symm; omega)).trans (((FB.refl wF).alloc (.cells #[.bool y] 4)).block gO (by have := HLE.out; omega) |>.trans HRq.out)
              obtain ⟨A', c', rfl, -, -, -, -⟩ := OwnV.form ho
              rw [List.length_map, orP_len] at ho ⊢
              repeat (refine sch_take (o := ?_) (v := ?_) (a' := ?_) (at_of hops.out ?_) ?_ (fun W hW => ?_) ?_ ?_; rotate_left 3; (focus (simp only [List.getElem?_toArray, List.getElem?_cons_zero, List.getElem?_cons_succ]; rfl)); (focus (rw [hops.out]; rfl)); (focus (go_simp; with_reducible rfl)); (focus (simp only [Act.put, List.setIfInBounds_toArray, List.set_cons_zero, List.set_cons_succ]; rfl)))
              have u3 := (row2 hrw4).2
              have u4 := frozen_row _ hrw4 1
              (refine schL_store (o := ?_) (w' := w4.setCell ⟨gO, 1, none⟩ (.slice A' (j + 1) c')) (at_of hops.out ?_) ?_ 39 (.tmp 49) (.tmp 48) ?_ (.pointer (some ⟨gO, 1, none⟩)) (.slice A' (j + 1) c') ?_ ?_ ?_ ?_; rotate_left 1; (focus (simp only [List.getElem?_toArray, List.getElem?_cons_zero, List.getElem?_cons_succ]; rfl)); (focus (rw [hops.out]; rfl)); (focus rfl); (focus rfl); (focus rfl); (focus (go_simp)))
              have HQ1 := Lib.hid (hfb.set (p := ⟨gO, 1, none⟩) (by have := HGO.out; simp; omega) (.slice A' (j + 1) c'))
              have HQ2 := Lib.hid (show gO + 1 ≤ (w4.setCell ⟨gO, 1, none⟩ (.slice A' (j + 1) c')).heap.size from by have := hgr.size; have := HLE.out; simp at *; omega)
              have HQ3 := Lib.hid (show (w4.setCell ⟨gO, 1, none⟩ (.slice A' (j + 1) c')).heap[gO]? = some (.cells #[.int .i64 P, .slice A' (j + 1) c'] 41 (0, 0)) from heap_setCell_same w4 gO 1 _ _ (.slice A' (j + 1) c') hrw4)
              have HQ4 := Lib.hid ((show TS [gO] w4 (w4.setCell ⟨gO, 1, none⟩ (.slice A' (j + 1) c')) from TS.tb (TB.set w4 1 _) (by simp)).ownV ho (fun k hk hm => by have := (OwnV.base ho k hk).1; simp at hm; omega))
              clear u3 u4 hops hfb hrw4 ho hgr hob hlo
              go_wp2_with fail
              go_roundw
              case rel => exact ⟨j + 1, _, by have := HLT.out; omega, by go_num, HQ1.out, HQ2.out, HQ3.out, HQ4.out⟩
              case measure => have := HLT.out; simp [intOf]; omega
            · rw [Bool.true_or] at HOS
              go_wp2_with fail
              clear q0 q1
              obtain ⟨W0, hW0⟩ : ∃ W0 : World, W0 = wr := ⟨_, rfl⟩
              rw [← hW0]
              refine region_schL (E := Below (gO + 1)) 17 ((0, true) :: (1, true) :: (2, true) :: (3, true) :: (4, true) :: (5, true) :: (6, true) :: (7, true) :: (8, true) :: (9, true) :: (10, true) :: (11, true) :: (12, true) :: (13, true) :: (14, false) :: (15, false) :: (16, true) :: []) (by kernel_rfl) (Below.refl _) (fun _ _ _ h k => Below.trans h k) (fun _ _ d _ _ h => by cases d <;> exact h) (by kernel_rfl) ?_
              intro ops hops0
              have hops := Lib.hid hops0
              clear hops0
              have HF : Below (gO + 1) W0 W0.drew := (Below.refl _ _).drew
              have HD : FB W0 W0.drew := (FB.refl _).drew
              generalize W0.drew = wF at *
              have HFq := Lib.hid (show FB wr wF from by rw [← hW0]; exact HD)
              clear hW0 HF HD
              have K1 := Lib.hid (FB.cell HFq.out (row2 HY1.out).2)
              have K2 := Lib.hid (FB.cell HFq.out (row2 HY2.out).2)
              have K3 := Lib.hid (FB.cell HFq.out (row2 HROWO.out).2)
              have K4 := Lib.hid (FB.cell HFq.out C1.out)
              have K5 := Lib.hid (FB.cell HFq.out C2.out)
              have HLE := Lib.hid (show gO + 1 ≤ wF.heap.size from Nat.le_trans HS.out HFq.out.le)
              have HOq := Lib.hid (HFq.out.ownV HO.out)
              have HRq := Lib.hid ((HFq.out.block _ (Array.getElem?_eq_some_iff.1 HROWO.out).1).trans HROWO.out)
              repeat (refine sch_take (o := ?_) (v := ?_) (a' := ?_) (at_of hops.out ?_) ?_ (fun W hW => ?_) ?_ ?_; rotate_left 3; (focus (simp only [List.getElem?_toArray, List.getElem?_cons_zero, List.getElem?_cons_succ]; rfl)); (focus (rw [hops.out]; rfl)); (focus (have u1 := bl_cell hW K1.out (by have := HGN.out; simp; omega); have u2 := bl_cell hW K2.out (by have := HGN.out; simp; omega); have u3 := bl_cell hW K3.out (by simp); have u4 := bl_cell hW K4.out (by have := HBA.out; simp; omega); have u5 := bl_cell hW K5.out (by have := HBB.out; simp; omega); go_simp; with_reducible rfl)); (focus (simp only [Act.put, List.setIfInBounds_toArray, List.set_cons_zero, List.set_cons_succ]; rfl)))
              repeat (refine sch_skip (o := ?_) (a' := ?_) (Below.refl _) (at_of hops.out ?_) ?_ ?_ ?_; rotate_left 2; (focus (simp only [List.getElem?_toArray, List.getElem?_cons_zero, List.getElem?_cons_succ]; rfl)); (focus (rw [hops.out]; rfl)); (focus (simp only [Act.put, List.setIfInBounds_toArray, List.set_cons_zero, List.set_cons_succ]; rfl)))
              repeat (refine sch_take (o := ?_) (v := ?_) (a' := ?_) (at_of hops.out ?_) ?_ (fun W hW => ?_) ?_ ?_; rotate_left 3; (focus (simp only [List.getElem?_toArray, List.getElem?_cons_zero, List.getElem?_cons_succ]; rfl)); (focus (rw [hops.out]; rfl)); (focus (go_simp; with_reducible rfl)); (focus (simp only [Act.put, List.setIfInBounds_toArray, List.set_cons_zero, List.set_cons_succ]; rfl)))
              (refine sch_run (o := ?_) (v := ?_) (a' := ?_) (w' := ?_) (at_of hops.out ?_) ?_ ?_ ?_ ?_ ?_; rotate_left 4; (focus (simp only [List.getElem?_toArray, List.getElem?_cons_zero, List.getElem?_cons_succ]; rfl)); (focus (rw [hops.out]; rfl)); (focus (go_simp; constructor <;> with_reducible rfl)); (focus (exact Below.alloc (Below.refl _ _) HLE.out _)); (focus (simp only [Act.put, List.setIfInBounds_toArray, List.set_cons_zero, List.set_cons_succ]; rfl)))
              (refine sch_append (o := ?_) (at_of hops.out ?_) ?_ (.tmp 34) (.tmp 47) 39 4 1 (.bool false) Try.underlying39 info_b rfl ?_ (gO + 1) _ ((orP us vs j).map .bool) (HOq.out.alloc _) ?_ (some ⟨wF.heap.size, 0, none⟩) 1 1 [.bool true] rfl ?_ (RdV.lit wF [.bool true] 4 rfl) (by simp [Value.oneCell']) (by have := HOL.out; simp [maxLen] at *; omega) (by have := HOL.out; simp at *; omega) (by have := HLE.out; simp; omega) ?_; rotate_left 1; (focus (simp only [List.getElem?_toArray, List.getElem?_cons_zero, List.getElem?_cons_succ]; rfl)); (focus (rw [hops.out]; rfl)); (focus rfl); (focus rfl); (focus rfl))
              intro v' w4 ho hgr hob
              rw [← List.map_singleton, ← List.map_append, ← HOS.out] at ho
              have hlo := fun k hk => (OwnV.base HOq.out k hk).1
              refine ⟨Below.grown (Below.refl _ _) hgr (by have := HLE.out; simp; omega) hlo, ?_⟩
              intro a' ha'; simp only [Act.put, List.setIfInBounds_toArray, List.set_cons_zero, List.set_cons_succ] at ha'; subst ha'
              have hfb := (HL.out.trans HFq.out).alloc (.cells #[.bool true] 4) |>.grown hgr (fun k hk => by have := hlo k hk; have := HGO.out; omega)
              have hrw4 : w4.heap[gO]? = _ := (hgr.block gO (by have := HLE.out; simp; omega) (fun e => by have := hlo gO e.symm; omega)).trans (((FB.refl wF).alloc (.cells #[.bool true] 4)).block gO (by have := HLE.out; omega) |>.trans HRq.out)
              obtain ⟨A', c', rfl, -, -, -, -⟩ := OwnV.form ho
              rw [List.length_map, orP_len] at ho ⊢
              repeat (refine sch_take (o := ?_) (v := ?_) (a' := ?_) (at_of hops.out ?_) ?_ (fun W hW => ?_) ?_ ?_; rotate_left 3; (focus (simp only [List.getElem?_toArray, List.getElem?_cons_zero, List.getElem?_cons_succ]; rfl)); (focus (rw [hops.out]; rfl)); (focus (go_simp; with_reducible rfl)); (focus (simp only [Act.put, List.setIfInBounds_toArray, List.set_cons_zero, List.set_cons_succ]; rfl)))
              have u3 := (row2 hrw4).2
              have u4 := frozen_row _ hrw4 1
              (refine schL_store (o := ?_) (w' := w4.setCell ⟨gO, 1, none⟩ (.slice A' (j + 1) c')) (at_of hops.out ?_) ?_ 39 (.tmp 49) (.tmp 48) ?_ (.pointer (some ⟨gO, 1, none⟩)) (.slice A' (j + 1) c') ?_ ?_ ?_ ?_; rotate_left 1; (focus (simp only [List.getElem?_toArray, List.getElem?_cons_zero, List.getElem?_cons_succ]; rfl)); (focus (rw [hops.out]; rfl)); (focus rfl); (focus rfl); (focus rfl); (focus (go_simp)))
              have HQ1 := Lib.hid (hfb.set (p := ⟨gO, 1, none⟩) (by have := HGO.out; simp; omega) (.slice A' (j + 1) c'))
              have HQ2 := Lib.hid (show gO + 1 ≤ (w4.setCell ⟨gO, 1, none⟩ (.slice A' (j + 1) c')).heap.size from by have := hgr.size; have := HLE.out; simp at *; omega)
              have HQ3 := Lib.hid (show (w4.setCell ⟨gO, 1, none⟩ (.slice A' (j + 1) c')).heap[gO]? = some (.cells #[.int .i64 P, .slice A' (j + 1) c'] 41 (0, 0)) from heap_setCell_same w4 gO 1 _ _ (.slice A' (j + 1) c') hrw4)
              have HQ4 := Lib.hid ((show TS [gO] w4 (w4.setCell ⟨gO, 1, none⟩ (.slice A' (j + 1) c')) from TS.tb (TB.set w4 1 _) (by simp)).ownV ho (fun k hk hm => by have := (OwnV.base ho k hk).1; simp at hm; omega))
              clear u3 u4 hops hfb hrw4 ho hgr hob hlo
              go_wp2_with fail
              go_roundw
              case rel => exact ⟨j + 1, _, by have := HLT.out; omega, by go_num, HQ1.out, HQ2.out, HQ3.out, HQ4.out⟩
              case measure => have := HLT.out; simp [intOf]; omega
          · obtain rfl : j = us.length := by omega
            have hjz : ¬ (us.length : Int) < P := by rw [HPU.out]; omega
            have hrow3 := ((HL.out.block _ (Array.getElem?_eq_some_iff.1 HX3.out).1).trans HX3.out)
            obtain ⟨Av, cv, rfl, h1, h2, -, -⟩ := OwnV.form HO.out
            rw [List.length_map, orP_len] at HO HROWO h1
            obtain ⟨t0, t1⟩ := row2 HROWO.out
            have hst := sp_store (.int .i64 P) (.slice Av us.length cv) hrow3 (by simp [Value.oneCell'])
            have HROW := Lib.hid (setRow_heap wr (w.heap.size + 2) _ #[.int .i64 P, .slice Av us.length cv] _ _ hrow3)
            have HEND := Lib.hid ((HF3.out.trans HL.out).setRow (g := w.heap.size + 2) (by omega) #[.int .i64 P, .slice Av us.length cv])
            have HOE := Lib.hid ((TS.tb (F := [w.heap.size + 2]) (TB.setRow (w.heap.size + 2) wr #[.int .i64 P, .slice Av us.length cv]) (by simp)).ownV HO.out (fun b hb' hm => by have h1 := (OwnV.base HO.out b hb').1; have := HGN.out; simp at hm; omega))
            have HLC := Lib.hid (And.intro h1 h2)
            clear hrow3 h1 h2
            go_wp2_with (refine wpList_store_by rfl _ _ _ rfl _ hst ?_)
            try simp only [Exit.inBlock, Exit.then]
            refine bodyPost_ret (sp_ret rfl _ (w.heap.size + 2) rfl _ HROW.out) rfl ?_
            have ho := HOE.out
            rw [orP_all HLN.out] at ho
            have hq : (orL us vs).length = us.length := orK_len us vs _
            obtain ⟨A', c', e1, g1, g2, g3, g4⟩ := OwnV.form ho
            rw [List.length_map, hq] at e1
            cases e1
            exact ⟨Av, cv, by simp [hq], g3, by rw [hq]; exact HLC.out.1, HLC.out.2, HEND.out⟩
      · rw [if_neg (fun h => hpq h.2.2)]
        have hbe : (P != Q) = true := by simpa using hpq
        clear hpq hoa hob
        go_enter Try.func40, Try.ntmps40
        go_wp2_with fail
        generalize ((w.alloc (.cells #[.int .i64 P, .slice A us.length ca] 41)).alloc (.cells #[.int .i64 Q, .slice B vs.length cb] 41)).alloc (.cells #[.int .i64 0, .slice none 0 0] 41) = w0 at *
        refine (HCA.out _ (FB.refl _)).mono ?_
        rintro e w1 ⟨rfl, hb⟩
        have HF1 := Lib.hid hb
        clear hb q0 q1 r0 r1
        obtain ⟨s0, s1⟩ := row2 ((HF1.out.block _ (Array.getElem?_eq_some_iff.1 HB1.out).1).trans HB1.out)
        obtain ⟨t0, t1⟩ := row2 ((HF1.out.block _ (Array.getElem?_eq_some_iff.1 HB2.out).1).trans HB2.out)
        go_wp2_with fail
        refine (HCB.out _ HF1.out).mono ?_
        rintro e w2 ⟨rfl, hb⟩
        have HF2 := Lib.hid (HF1.out.trans hb)
        clear hb s0 s1 t0 t1
        obtain ⟨s0, s1⟩ := row2 ((HF2.out.block _ (Array.getElem?_eq_some_iff.1 HB1.out).1).trans HB1.out)
        obtain ⟨t0, t1⟩ := row2 ((HF2.out.block _ (Array.getElem?_eq_some_iff.1 HB2.out).1).trans HB2.out)
        have hrow3 := (HF2.out.block _ (Array.getElem?_eq_some_iff.1 HB3.out).1).trans HB3.out
        have hst := sp_store (.int .i64 0) (.slice none 0 0) hrow3 (by simp [Value.oneCell'])
        have HROW := Lib.hid (setRow_heap w2 (w.heap.size + 2) _ #[.int .i64 0, .slice none 0 0] _ _ hrow3)
        have HEND := Lib.hid ((HF.out.trans HF2.out).setRow (g := w.heap.size + 2) (by omega) #[.int .i64 0, .slice none 0 0])
        clear hrow3
        go_wp2_with (refine wpList_store_by rfl _ _ _ rfl _ hst ?_)
        try simp only [Exit.inBlock, Exit.then]
        refine bodyPost_ret (sp_ret rfl _ (w.heap.size + 2) rfl _ HROW.out) rfl ?_
        exact SpR.none 2 HEND.out
    · rw [if_neg (fun h => hob h.2.1)]
      have hch : spChk Q vs = 2 := by unfold spChk; rw [if_neg hob]
      rw [hch] at HCB
      clear hch hoa hob
      go_enter Try.func40, Try.ntmps40
      go_wp2_with fail
      generalize ((w.alloc (.cells #[.int .i64 P, .slice A us.length ca] 41)).alloc (.cells #[.int .i64 Q, .slice B vs.length cb] 41)).alloc (.cells #[.int .i64 0, .slice none 0 0] 41) = w0 at *
      refine (HCA.out _ (FB.refl _)).mono ?_
      rintro e w1 ⟨rfl, hb⟩
      have HF1 := Lib.hid hb
      clear hb q0 q1 r0 r1
      obtain ⟨t0, t1⟩ := row2 ((HF1.out.block _ (Array.getElem?_eq_some_iff.1 HB2.out).1).trans HB2.out)
      go_wp2_with fail
      refine (HCB.out _ HF1.out).mono ?_
      rintro e w2 ⟨rfl, hb⟩
      have HF2 := Lib.hid (HF1.out.trans hb)
      clear hb t0 t1
      have hrow3 := (HF2.out.block _ (Array.getElem?_eq_some_iff.1 HB3.out).1).trans HB3.out
      have hst := sp_store (.int .i64 0) (.slice none 0 0) hrow3 (by simp [Value.oneCell'])
      have HROW := Lib.hid (setRow_heap w2 (w.heap.size + 2) _ #[.int .i64 0, .slice none 0 0] _ _ hrow3)
      have HEND := Lib.hid ((HF.out.trans HF2.out).setRow (g := w.heap.size + 2) (by omega) #[.int .i64 0, .slice none 0 0])
      clear hrow3
      go_wp2_with (refine wpList_store_by rfl _ _ _ rfl _ hst ?_)
      try simp only [Exit.inBlock, Exit.then]
      refine bodyPost_ret (sp_ret rfl _ (w.heap.size + 2) rfl _ HROW.out) rfl ?_
      exact SpR.none 2 HEND.out
  · rw [if_neg (fun h => hoa h.1)]
    have hch : spChk P us = 2 := by unfold spChk; rw [if_neg hoa]
    rw [hch] at HCA
    clear hch hoa
    go_enter Try.func40, Try.ntmps40
    go_wp2_with fail
    generalize ((w.alloc (.cells #[.int .i64 P, .slice A us.length ca] 41)).alloc (.cells #[.int .i64 Q, .slice B vs.length cb] 41)).alloc (.cells #[.int .i64 0, .slice none 0 0] 41) = w0 at *
    refine (HCA.out _ (FB.refl _)).mono ?_
    rintro e w2 ⟨rfl, hb⟩
    have HF2 := Lib.hid hb
    clear hb q0 q1 r0 r1
    have hrow3 := (HF2.out.block _ (Array.getElem?_eq_some_iff.1 HB3.out).1).trans HB3.out
    have hst := sp_store (.int .i64 0) (.slice none 0 0) hrow3 (by simp [Value.oneCell'])
    have HROW := Lib.hid (setRow_heap w2 (w.heap.size + 2) _ #[.int .i64 0, .slice none 0 0] _ _ hrow3)
    have HEND := Lib.hid ((HF.out.trans HF2.out).setRow (g := w.heap.size + 2) (by omega) #[.int .i64 0, .slice none 0 0])
    clear hrow3
    go_wp2_with (refine wpList_store_by rfl _ _ _ rfl _ hst ?_)
    try simp only [Exit.inBlock, Exit.then]
    refine bodyPost_ret (sp_ret rfl _ (w.heap.size + 2) rfl _ HROW.out) rfl ?_
    exact SpR.none 2 HEND.out
end Go.Proofs.Ytjhgnohofcahbaa
