/- the reference of layer 8: Read. -/
import Derived.Test.YtjhgnohofcahbaaRsH
set_option linter.unusedVariables false
set_option linter.unusedSimpArgs false
namespace Go.Proofs.Ytjhgnohofcahbaa
open Go.ChangeShapes Go.WideShapes Go.ChangeAt Go.RowKit
attribute [local go_sem] nb_nonneg nb_lt8
set_option maxRecDepth 100000

set_option maxHeartbeats 4000000 in
theorem rs_Read (b : List Byte) (A : Option Addr) (c : Nat) (w : World) (hr : Rd w A b) (hl : b.length ≤ 1000000000) (hc : b.length ≤ c) (hm : c ≤ maxLen) :
    Calls Try.prog 42 #[.slice A b.length c] w fun e w' => SpR (spRead b) w e w' := by
  have HR := Lib.hid hr
  have HF0 := Lib.hid ((FB.refl w).alloc (.cells #[.int .i64 0, .slice none 0 0] 41))
  have HR0 := Lib.hid (heap_alloc_new w (.cells #[.int .i64 0, .slice none 0 0] 41))
  have HGS := Lib.hid (show (w.alloc (.cells #[.int .i64 0, .slice none 0 0] 41)).heap.size = w.heap.size + 1 from by simp)
  have HL := Lib.hid hl
  by_cases h4 : 4 ≤ b.length
  · obtain ⟨R, hR⟩ : ∃ R, R = spRead b := ⟨_, rfl⟩
    rw [← hR]
    rw [← rsRead_eq b h4] at hR
    have HRR := Lib.hid hR
    obtain ⟨m, hmm⟩ : ∃ m, m = rdN b := ⟨_, rfl⟩
    have HM := Lib.hid hmm
    have hm32 := rdN_lt b
    rw [← hmm] at hm32
    have hmz : (m : Int) < 4294967296 := by omega
    have hmi : IntKind.i64.wrap (m : Int) = (m : Int) := by rw [IntKind.wrap_i64]; omega
    obtain ⟨bb, bo, rfl, -, hcs⟩ := Rd.form HR.out (by omega)
    have hz4 : ¬ (b.length : Int) < 4 := by omega
    have hcz : (4 : Int) ≤ (c : Int) := by omega
    have hcm : (c : Int) ≤ 9223372036854775807 := by unfold maxLen at hm; omega
    have HTK := Lib.hid (show ∀ W, FB w W → Rd W (some ⟨bb, bo, none⟩) (b.take 4) from fun W h => (h.rd HR.out).take 4)
    have HTL := Lib.hid (show (b.take 4).length = 4 from by rw [List.length_take]; omega)
    have HH4 := Lib.hid h4
    clear hr hR hmm hm32 hcs hl hc hm h4
    go_enter Try.func42, Try.ntmps42
    go_wp2_with fail
    refine (rr_New (b.take 4) _ _ _ HTL.out (HTK.out _ HF0.out)).mono ?_
    rintro e w1 ⟨g, b1, c1, rfl, hrow, hr1, h41, hm1, hbg, hgw, hb⟩
    have HF1 := Lib.hid (HF0.out.trans hb)
    have HRW1 := Lib.hid ((hb.block _ (Array.getElem?_eq_some_iff.1 HR0.out).1).trans HR0.out)
    have HG := Lib.hid (show w.heap.size < g from by rw [HGS.out] at hgw; omega)
    have hcw := rr_Word (b.take 4) g b1 c1 w1 HTL.out hrow hr1 h41 hm1
    rw [show nb (xword (b.take 4)) = ((rdN b : Nat) : Int) from rfl, ← HM.out] at hcw
    have HCW := Lib.hid hcw
    clear hrow hr1 h41 hm1 hbg hgw hb hcw
    go_wp2_with fail
    refine HCW.out.mono ?_
    rintro e w2 ⟨rfl, hts⟩
    have HF2 := Lib.hid (HF1.out.ts hts (fun x hx => by have := HG.out; simp at hx; omega))
    have HRW2 := Lib.hid ((hts.block _ (Array.getElem?_eq_some_iff.1 HRW1.out).1 (by have := HG.out; simp; omega)).trans HRW1.out)
    clear hts HCW HF1 HRW1 HG
    go_wp2_with fail
    have HGN := Lib.hid (show w.heap.size < w2.heap.size from (Array.getElem?_eq_some_iff.1 HRW2.out).1)
    have HG0 := Lib.hid (heap_alloc_new w2 (.cells #[.int .i64 (m : Int), .slice none 0 0] 41))
    have HGF := Lib.hid ((FB.refl w2).alloc (.cells #[.int .i64 (m : Int), .slice none 0 0] 41))
    have HGT := Lib.hid (show w2.heap.size + 1 ≤ (w2.alloc (.cells #[.int .i64 (m : Int), .slice none 0 0] 41)).heap.size from by simp)
    generalize w2.alloc (.cells #[.int .i64 (m : Int), .slice none 0 0] 41) = w3 at *
    obtain ⟨gO, hgO⟩ : ∃ gO, gO = w2.heap.size := ⟨_, rfl⟩
    have HGO := Lib.hid hgO
    rw [← hgO] at HGN HG0 HGT ⊢
    obtain ⟨n', hn'⟩ : ∃ n', n' = rdM b := ⟨_, rfl⟩
    have HN := Lib.hid hn'
    obtain ⟨k, hk⟩ : ∃ k, k = b.length - 4 := ⟨_, rfl⟩
    have HK := Lib.hid (show k + 4 = b.length from by have := HH4.out; omega)
    have HNM := Lib.hid (show n' = min (min m (8 * k)) 4096 from by rw [hn', HM.out, hk]; rfl)
    have hw1 : IntKind.i64.wrap ((b.length : Int) - 4) = (k : Int) := by rw [IntKind.wrap_i64]; have := HK.out; have := HL.out; omega
    have hw1' : ((b.length : Int) - 4) = (k : Int) := by have := HK.out; omega
    have hwk : IntKind.i64.wrap (k : Int) = (k : Int) := by rw [IntKind.wrap_i64]; have := HK.out; have := HL.out; omega
    have hw2 : IntKind.i64.wrap (8 * (k : Int)) = 8 * (k : Int) := by rw [IntKind.wrap_i64]; have := HK.out; have := HL.out; omega
    clear hgO hn' hk HTK HTL HF0 HR0 HGS hmi hmz
    go_loopw [5] (fun c5 wl => ∃ (j : Nat) (v : Value), j ≤ n' ∧ c5 = .int .i64 j ∧ Hid (FB w2 wl) ∧ Hid (gO + 1 ≤ wl.heap.size) ∧ Hid (wl.heap[gO]? = some (.cells #[.int .i64 (m : Int), v] 41 (0, 0))) ∧ Hid (OwnV 4 wl (gO + 1) v ((rdU b j).map .bool))) (fun c5 wl => n' - (intOf c5).toNat)
    case atStart => exact ⟨0, .slice none 0 0, by omega, rfl, HGF.out, HGT.out, HG0.out, OwnV.nil _ _ _⟩
    case round =>
      obtain ⟨j, v, hj, rfl, HLW, HS, HROWO, HO⟩ := hrel
      obtain ⟨Av, cv, rfl, hv1, hv2, -, -⟩ := OwnV.form HO.out
      rw [List.length_map, rdU_len] at HO HROWO hv1
      have HV := Lib.hid (And.intro hv1 hv2)
      have HJ := Lib.hid hj
      obtain ⟨q0, q1⟩ := row2 HROWO.out
      clear hv1 hv2
      by_cases hj1 : j < m
      · have hj1z : (j : Int) < (m : Int) := by omega
        by_cases hj2 : j < 8 * k
        · have hj2z : (j : Int) < 8 * (k : Int) := by omega
          by_cases hj3 : j < 4096
          · have hj3z : (j : Int) < 4096 := by omega
            have HLT := Lib.hid (show j < n' from by have := HNM.out; omega)
            obtain ⟨r, hr⟩ : ∃ r, r = j % 8 := ⟨_, rfl⟩
            obtain ⟨a, ha⟩ : ∃ a, a = j / 8 := ⟨_, rfl⟩
            have hd1 : (j : Int).tdiv 8 = (a : Int) := by rw [Int.tdiv_eq_ediv_of_nonneg (by omega), ha]; omega
            have hd2 : (j : Int) / 8 = (a : Int) := by rw [ha]; omega
            have hm1 : (j : Int).tmod 8 = (r : Int) := by rw [Int.tmod_eq_emod_of_nonneg (by omega), hr]; omega
            have hm2 : (j : Int) % 8 = (r : Int) := by rw [hr]; omega
            have hr8 : r < 8 := by omega
            have hrl2 : (r : Int) < 8 := by omega
            have hrl0 : (0 : Int) ≤ (r : Int) := by omega
            have ha5 : a < 512 := by omega
            have hwa : IntKind.i64.wrap (a : Int) = (a : Int) := by rw [IntKind.wrap_i64]; omega
            have hwr : IntKind.i64.wrap (r : Int) = (r : Int) := by rw [IntKind.wrap_i64]; omega
            have hwr2 : IntKind.u64.wrap (r : Int) = (r : Int) := by rw [wrap_u64]; omega
            have hwj : IntKind.i64.wrap ((j : Int) + 1) = (j : Int) + 1 := by rw [IntKind.wrap_i64]; omega
            obtain ⟨q, hq⟩ : ∃ q, q = 4 + a := ⟨_, rfl⟩
            have hq1 : (4 : Int) + (a : Int) = (q : Int) := by omega
            have hwq : IntKind.i64.wrap (q : Int) = (q : Int) := by rw [IntKind.wrap_i64]; omega
            have hqb : q < b.length := by have := HK.out; omega
            have hqz : (q : Int) < (b.length : Int) := by omega
            obtain ⟨kb, ko, e2, hkb, hcs⟩ := Rd.form HR.out (by omega)
            cases e2
            have hcell := (HF2.out.trans HLW.out).cell (hcs q hqb)
            obtain ⟨x, hx⟩ : ∃ x, x = b[q] := ⟨_, rfl⟩
            rw [← hx] at hcell
            unfold vb at hcell
            have HCX := Lib.hid hcell
            have HKB := Lib.hid (show bb < gO from by have := HF2.out.le; rw [HGO.out]; omega)
            have hbit := bit_mod r hr8 x
            have hbit2 := bit_tmod r hr8 x
            have HOS := Lib.hid (show rdU b (j + 1) = rdU b j ++ [x.getLsbD r] from by
              rw [rdU_succ, ← ha, ← hr, hx, List.getD_eq_getElem?_getD, List.getElem?_drop, ← hq, List.getElem?_eq_getElem hqb]; rfl)
            have HOL := Lib.hid (show ((rdU b j).map Value.bool).length ≤ 1000000000 from by rw [List.length_map, rdU_len]; omega)
            clear hcs hx hcell ha hr hq hj
            go_wp2_with fail
            clear q0 q1
            obtain ⟨W0, hW0⟩ : ∃ W0 : World, W0 = wr := ⟨_, rfl⟩
            rw [← hW0]
            refine region_schL (E := Below (gO + 1)) 17 ((0, true) :: (1, true) :: (2, true) :: (3, true) :: (4, true) :: (5, true) :: (6, true) :: (7, true) :: (8, true) :: (9, true) :: (10, true) :: (11, true) :: (12, true) :: (13, true) :: (14, false) :: (15, false) :: (16, true) :: []) (by kernel_rfl) (Below.refl _) (fun _ _ _ h k => Below.trans h k) (fun _ _ d _ _ h => by cases d <;> exact h) (by kernel_rfl) ?_
            intro ops hops0
            have hops := Lib.hid hops0
            clear hops0
            have HF : Below (gO + 1) W0 W0.drew := (Below.refl _ _).drew
            have HD : FB W0 W0.drew := (FB.refl _).drew
            generalize W0.drew = wF at *
            have HFq := Lib.hid (show FB wr wF from by rw [← hW0]; exact HD)
            clear hW0 HF HD
            have K1 := Lib.hid (FB.cell HFq.out (row2 HROWO.out).2)
            have K2 := Lib.hid (FB.cell HFq.out HCX.out)
            have HLE := Lib.hid (show gO + 1 ≤ wF.heap.size from Nat.le_trans HS.out HFq.out.le)
            have HOq := Lib.hid (HFq.out.ownV HO.out)
            have HRq := Lib.hid ((HFq.out.block _ (Array.getElem?_eq_some_iff.1 HROWO.out).1).trans HROWO.out)
            repeat (refine sch_take (o := ?_) (v := ?_) (a' := ?_) (at_of hops.out ?_) ?_ (fun W hW => ?_) ?_ ?_; rotate_left 3; (focus (simp only [List.getElem?_toArray, List.getElem?_cons_zero, List.getElem?_cons_succ]; rfl)); (focus (rw [hops.out]; rfl)); (focus (have u1 := bl_cell hW K1.out (by simp); have u2 := bl_cell hW K2.out (by have := HKB.out; simp; omega); go_simp; with_reducible rfl)); (focus (simp only [Act.put, List.setIfInBounds_toArray, List.set_cons_zero, List.set_cons_succ]; rfl)))
            (refine sch_run (o := ?_) (v := ?_) (a' := ?_) (w' := ?_) (at_of hops.out ?_) ?_ ?_ ?_ ?_ ?_; rotate_left 4; (focus (simp only [List.getElem?_toArray, List.getElem?_cons_zero, List.getElem?_cons_succ]; rfl)); (focus (rw [hops.out]; rfl)); (focus (go_simp; constructor <;> with_reducible rfl)); (focus (exact Below.alloc (Below.refl _ _) HLE.out _)); (focus (simp only [Act.put, List.setIfInBounds_toArray, List.set_cons_zero, List.set_cons_succ]; rfl)))
            (refine sch_append (o := ?_) (at_of hops.out ?_) ?_ (.tmp 37) (.tmp 50) 39 4 1 (.bool false) Try.underlying39 info_b rfl ?_ (gO + 1) _ ((rdU b j).map .bool) (HOq.out.alloc _) ?_ (some ⟨wF.heap.size, 0, none⟩) 1 1 [.bool (x.getLsbD r)] rfl ?_ (RdV.lit wF [.bool (x.getLsbD r)] 4 rfl) (by simp [Value.oneCell']) (by have := HOL.out; simp [maxLen] at *; omega) (by have := HOL.out; simp at *; omega) (by have := HLE.out; simp; omega) ?_; rotate_left 1; (focus (simp only [List.getElem?_toArray, List.getElem?_cons_zero, List.getElem?_cons_succ]; rfl)); (focus (rw [hops.out]; rfl)); (focus rfl); (focus rfl); (focus rfl))
            intro v' w4 ho hgr hob
            rw [← List.map_singleton, ← List.map_append, ← HOS.out] at ho
            have hlo := fun k hk => (OwnV.base HOq.out k hk).1
            refine ⟨Below.grown (Below.refl _ _) hgr (by have := HLE.out; simp; omega) hlo, ?_⟩
            intro a' ha'; simp only [Act.put, List.setIfInBounds_toArray, List.set_cons_zero, List.set_cons_succ] at ha'; subst ha'
            have hfb := (HLW.out.trans HFq.out).alloc (.cells #[.bool (x.getLsbD r)] 4) |>.grown hgr (fun k hk => by have := hlo k hk; have := HGO.out; omega)
            have hrw4 : w4.heap[gO]? = _ := (hgr.block gO (by have := HLE.out; simp; omega) (fun e => by have := hlo gO e.symm; omega)).trans (((FB.refl wF).alloc (.cells #[.bool (x.getLsbD r)] 4)).block gO (by have := HLE.out; omega) |>.trans HRq.out)
            obtain ⟨A', c', rfl, -, -, -, -⟩ := OwnV.form ho
            rw [List.length_map, rdU_len] at ho ⊢
            repeat (refine sch_take (o := ?_) (v := ?_) (a' := ?_) (at_of hops.out ?_) ?_ (fun W hW => ?_) ?_ ?_; rotate_left 3; (focus (simp only [List.getElem?_toArray, List.getElem?_cons_zero, List.getElem?_cons_succ]; rfl)); (focus (rw [hops.out]; rfl)); (focus (go_simp; with_reducible rfl)); (focus (simp only [Act.put, List.setIfInBounds_toArray, List.set_cons_zero, List.set_cons_succ]; rfl)))
            have u3 := (row2 hrw4).2
            have u4 := frozen_row _ hrw4 1
            (refine schL_store (o := ?_) (w' := w4.setCell ⟨gO, 1, none⟩ (.slice A' (j + 1) c')) (at_of hops.out ?_) ?_ 39 (.tmp 52) (.tmp 51) ?_ (.pointer (some ⟨gO, 1, none⟩)) (.slice A' (j + 1) c') ?_ ?_ ?_ ?_; rotate_left 1; (focus (simp only [List.getElem?_toArray, List.getElem?_cons_zero, List.getElem?_cons_succ]; rfl)); (focus (rw [hops.out]; rfl)); (focus rfl); (focus rfl); (focus rfl); (focus (go_simp)))
            have HQ1 := Lib.hid (hfb.set (p := ⟨gO, 1, none⟩) (by have := HGO.out; simp; omega) (.slice A' (j + 1) c'))
            have HQ2 := Lib.hid (show gO + 1 ≤ (w4.setCell ⟨gO, 1, none⟩ (.slice A' (j + 1) c')).heap.size from by have := hgr.size; have := HLE.out; simp at *; omega)
            have HQ3 := Lib.hid (show (w4.setCell ⟨gO, 1, none⟩ (.slice A' (j + 1) c')).heap[gO]? = some (.cells #[.int .i64 (m : Int), .slice A' (j + 1) c'] 41 (0, 0)) from heap_setCell_same w4 gO 1 _ _ (.slice A' (j + 1) c') hrw4)
            have HQ4 := Lib.hid ((show TS [gO] w4 (w4.setCell ⟨gO, 1, none⟩ (.slice A' (j + 1) c')) from TS.tb (TB.set w4 1 _) (by simp)).ownV ho (fun k hk hm => by have := (OwnV.base ho k hk).1; simp at hm; omega))
            clear u3 u4 hops hfb hrw4 ho hgr hob hlo
            go_wp2_with fail
            go_roundw
            case rel => exact ⟨j + 1, _, by have := HLT.out; omega, by go_num, HQ1.out, HQ2.out, HQ3.out, HQ4.out⟩
            case measure => have := HLT.out; simp [intOf]; omega
          · have hj3z : ¬ (j : Int) < 4096 := by omega
            have HJN := Lib.hid (show j = n' from by have := HNM.out; omega)
            have hcw := rs_Bytes (m : Int) (rdU b j) Av cv wr (OwnV.info (show OwnV 4 wr (gO + 1) (.slice Av j cv) ((rdU b j).map .bool) from HO.out)).2.2.1 (by rw [rdU_len]; have := HJN.out; have := HNM.out; omega)
            rw [rdU_len] at hcw
            have HRWr := Lib.hid ((HLW.out.block _ (Array.getElem?_eq_some_iff.1 HRW2.out).1).trans HRW2.out)
            have HFr := Lib.hid (HF2.out.trans HLW.out)
            have HRQ := HRR
            unfold rsRead at HRQ
            rw [← HM.out, ← HN.out, ← HJN.out] at HRQ
            by_cases hok : spOk (m : Int) (rdU b j) = true
            · unfold spBytesR at hcw
              rw [if_pos hok] at hcw
              have HCW := Lib.hid hcw
              have HOK := Lib.hid hok
              generalize spBytes (m : Int) (rdU b j) = ys at *
              clear hcw hok
              go_wp2_with fail
              refine HCW.out.mono ?_
              rintro e w9 ⟨A9, c9, rfl, hr9, hc9, hm9, hb⟩
              have HF9 := Lib.hid (HFr.out.trans hb)
              have HRW9 := Lib.hid ((hb.block _ (Array.getElem?_eq_some_iff.1 HRWr.out).1).trans HRWr.out)
              have HBX9 := Lib.hid ((hb.block _ (Array.getElem?_eq_some_iff.1 HROWO.out).1).trans HROWO.out)
              have HU9 := Lib.hid (OwnV.below HO.out hb)
              replace hr9 : Rd w9 A9 ys := hr9
              have hs1 := run_string c9 hr9
              have hs2 := run_string c (HF9.out.rd HR.out)
              clear hb q0 q1 HCW
              by_cases hyb : ys = b
              · have HSR := Lib.hid (show R = ((m : Int), rdU b j, 0) from by rw [HRQ.out, if_pos ⟨HOK.out, hyb⟩])
                have hse : ((sb ys).toList == (sb b).toList) = true := by rw [sb_beq]; simpa using hyb
                clear hyb
                obtain ⟨q0, q1⟩ := row2 HBX9.out
                have hst := sp_store (.int .i64 (m : Int)) (.slice Av j cv) HRW9.out (by simp [Value.oneCell'])
                have HROW := Lib.hid (setRow_heap _ w.heap.size _ #[.int .i64 (m : Int), .slice Av j cv] _ _ HRW9.out)
                have HEND := Lib.hid (HF9.out.setRow (g := w.heap.size) (Nat.le_refl _) #[.int .i64 (m : Int), .slice Av j cv])
                have HOE := Lib.hid (OwnV.info ((TS.tb (F := [w.heap.size]) (TB.setRow w.heap.size w9 #[.int .i64 (m : Int), .slice Av j cv]) (by simp)).ownV HU9.out (fun b hb' hm => by have h1 := (OwnV.base HU9.out b hb').1; have := HGN.out; simp at hm; omega)))
                go_wp2_with (refine wpList_store_by rfl _ _ _ rfl _ hst ?_)
                try simp only [Exit.inBlock, Exit.then]
                refine bodyPost_ret (sp_ret rfl _ w.heap.size rfl _ HROW.out) rfl ?_
                rw [HSR.out]
                refine ⟨Av, cv, ?_, HOE.out.2.2.1, ?_, HOE.out.2.1, HEND.out⟩
                · simp only [rdU_len]; rfl
                · simp only [rdU_len]; exact HV.out.1
              · have HSR := Lib.hid (show R = (0, [], 4) from by rw [HRQ.out, if_neg (fun h => hyb h.2)])
                have hse : ((sb ys).toList == (sb b).toList) = false := by rw [sb_beq]; simpa using hyb
                clear hyb
                have HRW := HRW9
                have HFC := HF9
                have hst := sp_store (.int .i64 0) (.slice none 0 0) HRW.out (by simp [Value.oneCell'])
                have HROW := Lib.hid (setRow_heap _ w.heap.size _ #[.int .i64 0, .slice none 0 0] _ _ HRW.out)
                have HEND := Lib.hid (HFC.out.setRow (g := w.heap.size) (Nat.le_refl _) #[.int .i64 0, .slice none 0 0])
                go_wp2_with (refine wpList_store_by rfl _ _ _ rfl _ hst ?_)
                try simp only [Exit.inBlock, Exit.then]
                refine bodyPost_ret (sp_ret rfl _ w.heap.size rfl _ HROW.out) rfl ?_
                rw [HSR.out]
                exact SpR.none 4 HEND.out
            · unfold spBytesR at hcw
              rw [if_neg hok] at hcw
              have HSR := Lib.hid (show R = (0, [], 4) from by rw [HRQ.out, if_neg (fun h => hok h.1)])
              have HCW := Lib.hid hcw
              clear hcw hok
              go_wp2_with fail
              refine HCW.out.mono ?_
              rintro e w9 ⟨A9, c9, rfl, hr9, hc9, hm9, hb⟩
              have HFC := Lib.hid (HFr.out.trans hb)
              have HRW := Lib.hid ((hb.block _ (Array.getElem?_eq_some_iff.1 HRWr.out).1).trans HRWr.out)
              clear hb q0 q1 HCW
              have hst := sp_store (.int .i64 0) (.slice none 0 0) HRW.out (by simp [Value.oneCell'])
              have HROW := Lib.hid (setRow_heap _ w.heap.size _ #[.int .i64 0, .slice none 0 0] _ _ HRW.out)
              have HEND := Lib.hid (HFC.out.setRow (g := w.heap.size) (Nat.le_refl _) #[.int .i64 0, .slice none 0 0])
              go_wp2_with (refine wpList_store_by rfl _ _ _ rfl _ hst ?_)
              try simp only [Exit.inBlock, Exit.then]
              refine bodyPost_ret (sp_ret rfl _ w.heap.size rfl _ HROW.out) rfl ?_
              rw [HSR.out]
              exact SpR.none 4 HEND.out
        · have hj2z : ¬ (j : Int) < 8 * (k : Int) := by omega
          have HJN := Lib.hid (show j = n' from by have := HNM.out; omega)
          have hcw := rs_Bytes (m : Int) (rdU b j) Av cv wr (OwnV.info (show OwnV 4 wr (gO + 1) (.slice Av j cv) ((rdU b j).map .bool) from HO.out)).2.2.1 (by rw [rdU_len]; have := HJN.out; have := HNM.out; omega)
          rw [rdU_len] at hcw
          have HRWr := Lib.hid ((HLW.out.block _ (Array.getElem?_eq_some_iff.1 HRW2.out).1).trans HRW2.out)
          have HFr := Lib.hid (HF2.out.trans HLW.out)
          have HRQ := HRR
          unfold rsRead at HRQ
          rw [← HM.out, ← HN.out, ← HJN.out] at HRQ
          by_cases hok : spOk (m : Int) (rdU b j) = true
          · unfold spBytesR at hcw
            rw [if_pos hok] at hcw
            have HCW := Lib.hid hcw
            have HOK := Lib.hid hok
            generalize spBytes (m : Int) (rdU b j) = ys at *
            clear hcw hok
            go_wp2_with fail
            refine HCW.out.mono ?_
            rintro e w9 ⟨A9, c9, rfl, hr9, hc9, hm9, hb⟩
            have HF9 := Lib.hid (HFr.out.trans hb)
            have HRW9 := Lib.hid ((hb.block _ (Array.getElem?_eq_some_iff.1 HRWr.out).1).trans HRWr.out)
            have HBX9 := Lib.hid ((hb.block _ (Array.getElem?_eq_some_iff.1 HROWO.out).1).trans HROWO.out)
            have HU9 := Lib.hid (OwnV.below HO.out hb)
            replace hr9 : Rd w9 A9 ys := hr9
            have hs1 := run_string c9 hr9
            have hs2 := run_string c (HF9.out.rd HR.out)
            clear hb q0 q1 HCW
            by_cases hyb : ys = b
            · have HSR := Lib.hid (show R = ((m : Int), rdU b j, 0) from by rw [HRQ.out, if_pos ⟨HOK.out, hyb⟩])
              have hse : ((sb ys).toList == (sb b).toList) = true := by rw [sb_beq]; simpa using hyb
              clear hyb
              obtain ⟨q0, q1⟩ := row2 HBX9.out
              have hst := sp_store (.int .i64 (m : Int)) (.slice Av j cv) HRW9.out (by simp [Value.oneCell'])
              have HROW := Lib.hid (setRow_heap _ w.heap.size _ #[.int .i64 (m : Int), .slice Av j cv] _ _ HRW9.out)
              have HEND := Lib.hid (HF9.out.setRow (g := w.heap.size) (Nat.le_refl _) #[.int .i64 (m : Int), .slice Av j cv])
              have HOE := Lib.hid (OwnV.info ((TS.tb (F := [w.heap.size]) (TB.setRow w.heap.size w9 #[.int .i64 (m : Int), .slice Av j cv]) (by simp)).ownV HU9.out (fun b hb' hm => by have h1 := (OwnV.base HU9.out b hb').1; have := HGN.out; simp at hm; omega)))
              go_wp2_with (refine wpList_store_by rfl _ _ _ rfl _ hst ?_)
              try simp only [Exit.inBlock, Exit.then]
              refine bodyPost_ret (sp_ret rfl _ w.heap.size rfl _ HROW.out) rfl ?_
              rw [HSR.out]
              refine ⟨Av, cv, ?_, HOE.out.2.2.1, ?_, HOE.out.2.1, HEND.out⟩
              · simp only [rdU_len]; rfl
              · simp only [rdU_len]; exact HV.out.1
            · have HSR := Lib.hid (show R = (0, [], 4) from by rw [HRQ.out, if_neg (fun h => hyb h.2)])
              have hse : ((sb ys).toList == (sb b).toList) = false := by rw [sb_beq]; simpa using hyb
              clear hyb
              have HRW := HRW9
              have HFC := HF9
              have hst := sp_store (.int .i64 0) (.slice none 0 0) HRW.out (by simp [Value.oneCell'])
              have HROW := Lib.hid (setRow_heap _ w.heap.size _ #[.int .i64 0, .slice none 0 0] _ _ HRW.out)
              have HEND := Lib.hid (HFC.out.setRow (g := w.heap.size) (Nat.le_refl _) #[.int .i64 0, .slice none 0 0])
              go_wp2_with (refine wpList_store_by rfl _ _ _ rfl _ hst ?_)
              try simp only [Exit.inBlock, Exit.then]
              refine bodyPost_ret (sp_ret rfl _ w.heap.size rfl _ HROW.out) rfl ?_
              rw [HSR.out]
              exact SpR.none 4 HEND.out
          · unfold spBytesR at hcw
            rw [if_neg hok] at hcw
            have HSR := Lib.hid (show R = (0, [], 4) from by rw [HRQ.out, if_neg (fun h => hok h.1)])
            have HCW := Lib.hid hcw
            clear hcw hok
            go_wp2_with fail
            refine HCW.out.mono ?_
            rintro e w9 ⟨A9, c9, rfl, hr9, hc9, hm9, hb⟩
            have HFC := Lib.hid (HFr.out.trans hb)
            have HRW := Lib.hid ((hb.block _ (Array.getElem?_eq_some_iff.1 HRWr.out).1).trans HRWr.out)
            clear hb q0 q1 HCW
            have hst := sp_store (.int .i64 0) (.slice none 0 0) HRW.out (by simp [Value.oneCell'])
            have HROW := Lib.hid (setRow_heap _ w.heap.size _ #[.int .i64 0, .slice none 0 0] _ _ HRW.out)
            have HEND := Lib.hid (HFC.out.setRow (g := w.heap.size) (Nat.le_refl _) #[.int .i64 0, .slice none 0 0])
            go_wp2_with (refine wpList_store_by rfl _ _ _ rfl _ hst ?_)
            try simp only [Exit.inBlock, Exit.then]
            refine bodyPost_ret (sp_ret rfl _ w.heap.size rfl _ HROW.out) rfl ?_
            rw [HSR.out]
            exact SpR.none 4 HEND.out
      · have hj1z : ¬ (j : Int) < (m : Int) := by omega
        have HJN := Lib.hid (show j = n' from by have := HNM.out; omega)
        have hcw := rs_Bytes (m : Int) (rdU b j) Av cv wr (OwnV.info (show OwnV 4 wr (gO + 1) (.slice Av j cv) ((rdU b j).map .bool) from HO.out)).2.2.1 (by rw [rdU_len]; have := HJN.out; have := HNM.out; omega)
        rw [rdU_len] at hcw
        have HRWr := Lib.hid ((HLW.out.block _ (Array.getElem?_eq_some_iff.1 HRW2.out).1).trans HRW2.out)
        have HFr := Lib.hid (HF2.out.trans HLW.out)
        have HRQ := HRR
        unfold rsRead at HRQ
        rw [← HM.out, ← HN.out, ← HJN.out] at HRQ
        by_cases hok : spOk (m : Int) (rdU b j) = true
        · unfold spBytesR at hcw
          rw [if_pos hok] at hcw
          have HCW := Lib.hid hcw
          have HOK := Lib.hid hok
          generalize spBytes (m : Int) (rdU b j) = ys at *
          clear hcw hok
          go_wp2_with fail
          refine HCW.out.mono ?_
          rintro e w9 ⟨A9, c9, rfl, hr9, hc9, hm9, hb⟩
          have HF9 := Lib.hid (HFr.out.trans hb)
          have HRW9 := Lib.hid ((hb.block _ (Array.getElem?_eq_some_iff.1 HRWr.out).1).trans HRWr.out)
          have HBX9 := Lib.hid ((hb.block _ (Array.getElem?_eq_some_iff.1 HROWO.out).1).trans HROWO.out)
          have HU9 := Lib.hid (OwnV.below HO.out hb)
          replace hr9 : Rd w9 A9 ys := hr9
          have hs1 := run_string c9 hr9
          have hs2 := run_string c (HF9.out.rd HR.out)
          clear hb q0 q1 HCW
          by_cases hyb : ys = b
          · have HSR := Lib.hid (show R = ((m : Int), rdU b j, 0) from by rw [HRQ.out, if_pos ⟨HOK.out, hyb⟩])
            have hse : ((sb ys).toList == (sb b).toList) = true := by rw [sb_beq]; simpa using hyb
            clear hyb
            obtain ⟨q0, q1⟩ := row2 HBX9.out
            have hst := sp_store (.int .i64 (m : Int)) (.slice Av j cv) HRW9.out (by simp [Value.oneCell'])
            have HROW := Lib.hid (setRow_heap _ w.heap.size _ #[.int .i64 (m : Int), .slice Av j cv] _ _ HRW9.out)
            have HEND := Lib.hid (HF9.out.setRow (g := w.heap.size) (Nat.le_refl _) #[.int .i64 (m : Int), .slice Av j cv])
            have HOE := Lib.hid (OwnV.info ((TS.tb (F := [w.heap.size]) (TB.setRow w.heap.size w9 #[.int .i64 (m : Int), .slice Av j cv]) (by simp)).ownV HU9.out (fun b hb' hm => by have h1 := (OwnV.base HU9.out b hb').1; have := HGN.out; simp at hm; omega)))
            go_wp2_with (refine wpList_store_by rfl _ _ _ rfl _ hst ?_)
            try simp only [Exit.inBlock, Exit.then]
            refine bodyPost_ret (sp_ret rfl _ w.heap.size rfl _ HROW.out) rfl ?_
            rw [HSR.out]
            refine ⟨Av, cv, ?_, HOE.out.2.2.1, ?_, HOE.out.2.1, HEND.out⟩
            · simp only [rdU_len]; rfl
            · simp only [rdU_len]; exact HV.out.1
          · have HSR := Lib.hid (show R = (0, [], 4) from by rw [HRQ.out, if_neg (fun h => hyb h.2)])
            have hse : ((sb ys).toList == (sb b).toList) = false := by rw [sb_beq]; simpa using hyb
            clear hyb
            have HRW := HRW9
            have HFC := HF9
            have hst := sp_store (.int .i64 0) (.slice none 0 0) HRW.out (by simp [Value.oneCell'])
            have HROW := Lib.hid (setRow_heap _ w.heap.size _ #[.int .i64 0, .slice none 0 0] _ _ HRW.out)
            have HEND := Lib.hid (HFC.out.setRow (g := w.heap.size) (Nat.le_refl _) #[.int .i64 0, .slice none 0 0])
            go_wp2_with (refine wpList_store_by rfl _ _ _ rfl _ hst ?_)
            try simp only [Exit.inBlock, Exit.then]
            refine bodyPost_ret (sp_ret rfl _ w.heap.size rfl _ HROW.out) rfl ?_
            rw [HSR.out]
            exact SpR.none 4 HEND.out
        · unfold spBytesR at hcw
          rw [if_neg hok] at hcw
          have HSR := Lib.hid (show R = (0, [], 4) from by rw [HRQ.out, if_neg (fun h => hok h.1)])
          have HCW := Lib.hid hcw
          clear hcw hok
          go_wp2_with fail
          refine HCW.out.mono ?_
          rintro e w9 ⟨A9, c9, rfl, hr9, hc9, hm9, hb⟩
          have HFC := Lib.hid (HFr.out.trans hb)
          have HRW := Lib.hid ((hb.block _ (Array.getElem?_eq_some_iff.1 HRWr.out).1).trans HRWr.out)
          clear hb q0 q1 HCW
          have hst := sp_store (.int .i64 0) (.slice none 0 0) HRW.out (by simp [Value.oneCell'])
          have HROW := Lib.hid (setRow_heap _ w.heap.size _ #[.int .i64 0, .slice none 0 0] _ _ HRW.out)
          have HEND := Lib.hid (HFC.out.setRow (g := w.heap.size) (Nat.le_refl _) #[.int .i64 0, .slice none 0 0])
          go_wp2_with (refine wpList_store_by rfl _ _ _ rfl _ hst ?_)
          try simp only [Exit.inBlock, Exit.then]
          refine bodyPost_ret (sp_ret rfl _ w.heap.size rfl _ HROW.out) rfl ?_
          rw [HSR.out]
          exact SpR.none 4 HEND.out
  · have HSR := spRead_bad (m := rdN b) rfl (fun h => h4 h.1)
    have hz4 : (b.length : Int) < 4 := by omega
    clear hr hl hc hm h4
    go_enter Try.func42, Try.ntmps42
    have HRW := HR0
    have HFC := HF0
    have hst := sp_store (.int .i64 0) (.slice none 0 0) HRW.out (by simp [Value.oneCell'])
    have HROW := Lib.hid (setRow_heap _ w.heap.size _ #[.int .i64 0, .slice none 0 0] _ _ HRW.out)
    have HEND := Lib.hid (HFC.out.setRow (g := w.heap.size) (Nat.le_refl _) #[.int .i64 0, .slice none 0 0])
    go_wp2_with (refine wpList_store_by rfl _ _ _ rfl _ hst ?_)
    try simp only [Exit.inBlock, Exit.then]
    refine bodyPost_ret (sp_ret rfl _ w.heap.size rfl _ HROW.out) rfl ?_
    rw [HSR.out]
    exact SpR.none 4 HEND.out
end Go.Proofs.Ytjhgnohofcahbaa
