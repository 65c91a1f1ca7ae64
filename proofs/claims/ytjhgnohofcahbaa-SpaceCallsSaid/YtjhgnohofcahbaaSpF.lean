/- space: the walk through Both. -/
import Derived.Test.YtjhgnohofcahbaaSpE
set_option linter.unusedVariables false
set_option linter.unusedSimpArgs false
namespace Go.Proofs.Ytjhgnohofcahbaa
open Go.ChangeShapes Go.WideShapes Go.ChangeAt Go.RowKit
set_option maxRecDepth 100000

/-- Used in one or the other; of the second the first j alone. -/
def orK (us vs : List Bool) (j : Nat) : List Bool := (List.range us.length).map fun i => us.getD i false || (decide (i < j) && vs.getD i false)
def orL (us vs : List Bool) : List Bool := orK us vs us.length
theorem orK_len (us vs : List Bool) (j : Nat) : (orK us vs j).length = us.length := by simp [orK]
theorem orK_zero (us vs : List Bool) : orK us vs 0 = us := by
  apply List.ext_getElem?
  intro i
  unfold orK
  rw [List.getElem?_map]
  by_cases h : i < us.length
  · simp [h]
  · rw [List.getElem?_eq_none (by simpa using h), List.getElem?_eq_none (by simpa using h)]; rfl
theorem orK_get {us vs : List Bool} {j i : Nat} (h : i < us.length) : (orK us vs j)[i]? = some (us.getD i false || (decide (i < j) && vs.getD i false)) := by
  unfold orK
  rw [List.getElem?_map, List.getElem?_range h]; rfl
theorem orK_succ {us vs : List Bool} {j : Nat} (h : j < us.length) : orK us vs (j + 1) = (orK us vs j).set j (us.getD j false || vs.getD j false) := by
  apply List.ext_getElem?
  intro i
  rw [List.getElem?_set]
  by_cases hi : i < us.length
  · rw [orK_get hi]
    by_cases e : j = i
    · subst e
      rw [if_pos rfl, if_pos (by rw [orK_len]; exact hi)]
      simp
    · rw [if_neg e, orK_get hi]
      congr 2
      rw [show decide (i < j + 1) = decide (i < j) from by simp only [decide_eq_decide]; omega]
  · rw [List.getElem?_eq_none (by rw [orK_len]; omega)]
    by_cases e : j = i
    · omega
    · rw [if_neg e, List.getElem?_eq_none (by rw [orK_len]; omega)]
def spBoth (P : Int) (us : List Bool) (Q : Int) (vs : List Bool) : Int × List Bool × Int := if spOk P us = true ∧ spOk Q vs = true ∧ P = Q then (P, orL us vs, 0) else (0, [], 2)
/-- Three spaces in boxes. -/
theorem box222 (w : World) (a b c d : Value) : let W := ((w.alloc (.cells #[a, b] 41)).alloc (.cells #[c, d] 41)).alloc (.cells #[.int .i64 0, .slice none 0 0] 41)
    FB w W ∧ W.heap[w.heap.size]? = some (.cells #[a, b] 41 (0, 0)) ∧ W.heap[w.heap.size + 1]? = some (.cells #[c, d] 41 (0, 0)) ∧ W.heap[w.heap.size + 2]? = some (.cells #[.int .i64 0, .slice none 0 0] 41 (0, 0)) ∧ W.heap.size = w.heap.size + 3 := by
  obtain ⟨h1, h2, h3, h4⟩ := box22 w a b c d
  refine ⟨h1.alloc _, ?_, ?_, ?_, by simp⟩
  · rw [((FB.refl _).alloc _).block _ (Array.getElem?_eq_some_iff.1 h2).1]; exact h2
  · rw [((FB.refl _).alloc _).block _ (Array.getElem?_eq_some_iff.1 h3).1]; exact h3
  · have := heap_alloc_new ((w.alloc (.cells #[a, b] 41)).alloc (.cells #[c, d] 41)) (.cells #[.int .i64 0, .slice none 0 0] 41)
    rw [h4] at this
    exact this
set_option maxHeartbeats 2000000 in
theorem sp_Both (P Q : Int) (us vs : List Bool) (A B : Option Addr) (ca cb : Nat) (w : World) (hz : us.length ≤ 1000000000) (hy : vs.length ≤ 1000000000) (hra : RdV w A (us.map .bool)) (hrb : RdV w B (vs.map .bool)) :
    Calls Try.prog 34 #[.agg #[.int .i64 P, .slice A us.length ca], .agg #[.int .i64 Q, .slice B vs.length cb]] w fun e w' => SpR (spBoth P us Q vs) w e w' := by
  obtain ⟨hf, hb1, hb2, hb3, hsz⟩ := box222 w (.int .i64 P) (.slice A us.length ca) (.int .i64 Q) (.slice B vs.length cb)
  have HF := Lib.hid hf
  have HRA := Lib.hid (hf.rdV hra)
  have HRB := Lib.hid (hf.rdV hrb)
  have HB1 := Lib.hid hb1
  have HB2 := Lib.hid hb2
  have HB3 := Lib.hid hb3
  have HSZ := Lib.hid hsz
  have HCA := Lib.hid (fun W (h : FB ((((w.alloc (.cells #[.int .i64 P, .slice A us.length ca] 41)).alloc (.cells #[.int .i64 Q, .slice B vs.length cb] 41)).alloc (.cells #[.int .i64 0, .slice none 0 0] 41))) W) => sp_Check P us A ca W (h.rdV HRA.out) (by omega))
  have HCB := Lib.hid (fun W (h : FB ((((w.alloc (.cells #[.int .i64 P, .slice A us.length ca] 41)).alloc (.cells #[.int .i64 Q, .slice B vs.length cb] 41)).alloc (.cells #[.int .i64 0, .slice none 0 0] 41))) W) => sp_Check Q vs B cb W (h.rdV HRB.out) (by omega))
  obtain ⟨q0, q1⟩ := row2 hb1
  obtain ⟨r0, r1⟩ := row2 hb2
  have HRB0 := Lib.hid hrb
  clear hf hb1 hb2 hb3 hra hrb hsz
  unfold spBoth
  by_cases hoa : spOk P us = true
  · have hch : spChk P us = 0 := by unfold spChk; rw [if_pos hoa]
    rw [hch] at HCA
    clear hch
    by_cases hob : spOk Q vs = true
    · have hch : spChk Q vs = 0 := by unfold spChk; rw [if_pos hob]
      rw [hch] at HCB
      clear hch
      by_cases hpq : P = Q
      · rw [if_pos ⟨hoa, hob, hpq⟩]
        have hbe : (P != Q) = false := by simpa using hpq
        have ha := spOk_iff.1 hoa
        have hb := spOk_iff.1 hob
        have hln : us.length = vs.length := by omega
        have hl8 : 8 ≤ us.length := by omega
        have HLN := Lib.hid hln
        clear hoa hob hpq ha hb hln
        go_enter Try.func34, Try.ntmps34
        go_wp2_with fail
        generalize ((w.alloc (.cells #[.int .i64 P, .slice A us.length ca] 41)).alloc (.cells #[.int .i64 Q, .slice B vs.length cb] 41)).alloc (.cells #[.int .i64 0, .slice none 0 0] 41) = w0 at *
        refine (HCA.out _ (FB.refl _)).mono ?_
        rintro e w1 ⟨rfl, hb⟩
        have HF1 := Lib.hid hb
        obtain ⟨s0, s1⟩ := row2 ((hb.block _ (Array.getElem?_eq_some_iff.1 HB1.out).1).trans HB1.out)
        obtain ⟨t0, t1⟩ := row2 ((hb.block _ (Array.getElem?_eq_some_iff.1 HB2.out).1).trans HB2.out)
        clear hb q0 q1 r0 r1
        go_wp2_with fail
        refine (HCB.out _ HF1.out).mono ?_
        rintro e w2 ⟨rfl, hb⟩
        have HF2 := Lib.hid (HF1.out.trans hb)
        clear hb s0 s1 t0 t1
        obtain ⟨s0, s1⟩ := row2 ((HF2.out.block _ (Array.getElem?_eq_some_iff.1 HB1.out).1).trans HB1.out)
        obtain ⟨t0, t1⟩ := row2 ((HF2.out.block _ (Array.getElem?_eq_some_iff.1 HB2.out).1).trans HB2.out)
        go_wp2_with fail
        refine (sl_CloneB us A us.length ca _ rfl hz (HF2.out.rdV HRA.out)).mono ?_
        rintro e w3 ⟨A3, c3, rfl, ho, hb⟩
        obtain ⟨g, rfl, hg1, hg2⟩ := OwnV.head0 ho (by rw [List.length_map]; omega)
        have hg3 : w.heap.size + 3 ≤ g := by have := HF2.out.le; rw [HSZ.out] at this; omega
        have hF3 := HF2.out.trans hb
        have hrow1 := (hF3.block _ (Array.getElem?_eq_some_iff.1 HB1.out).1).trans HB1.out
        have hrow2 := (hF3.block _ (Array.getElem?_eq_some_iff.1 HB2.out).1).trans HB2.out
        have hrow3 := (hF3.block _ (Array.getElem?_eq_some_iff.1 HB3.out).1).trans HB3.out
        have hs1 : TS [w.heap.size] w3 (w3.setCell ⟨w.heap.size, 1, none⟩ (.slice (some ⟨g, 0, none⟩) us.length c3)) := TS.tb (TB.set w3 1 _) (by simp)
        clear s0 s1 t0 t1
        obtain ⟨s0, s1⟩ := row2 hrow1
        have f1 := frozen_row _ hrow1 1
        have HR1 := Lib.hid (show _ = some (Obj.cells #[.int .i64 P, .slice (some ⟨g, 0, none⟩) us.length c3] 41 (0, 0)) from heap_setCell_same w3 w.heap.size 1 _ _ (.slice (some ⟨g, 0, none⟩) us.length c3) hrow1)
        have hR2 := (hs1.block (w.heap.size + 1) (Array.getElem?_eq_some_iff.1 hrow2).1 (by simp)).trans hrow2
        have HR2 := Lib.hid hR2
        have HR3 := Lib.hid ((hs1.block (w.heap.size + 2) (Array.getElem?_eq_some_iff.1 hrow3).1 (by simp)).trans hrow3)
        have HO := Lib.hid (hs1.ownV (ho.lower (base' := w.heap.size + 3) (by have := HF2.out.le; rw [HSZ.out] at this; exact this)) (fun b hb' hm => by cases hb'; simp at hm; omega))
        have HF4 := Lib.hid ((HF.out.trans hF3).set (p := ⟨w.heap.size, 1, none⟩) (Nat.le_refl _) (.slice (some ⟨g, 0, none⟩) us.length c3))
        have HRB4 := Lib.hid (hs1.rdV ((HF2.out.trans hb).rdV HRB.out) (fun ad ha hm => by
          have hlt : 0 < (vs.map Value.bool).length := by rw [List.length_map, ← HLN.out]; omega
          obtain ⟨kb, ko, e2, hk, -⟩ := RdV.form HRB0.out hlt
          rw [ha] at e2; cases e2
          simp at hm; omega))
        have HBK := Lib.hid (show ∀ ad, B = some ad → ad.block < w.heap.size from fun ad ha => by
          have hlt : 0 < (vs.map Value.bool).length := by rw [List.length_map, ← HLN.out]; omega
          obtain ⟨kb, ko, e2, hk, -⟩ := RdV.form HRB0.out hlt
          rw [ha] at e2; cases e2; exact hk)
        obtain ⟨t0, t1⟩ := row2 hR2
        clear ho hb hg1 hg2 hF3 hrow1 hrow2 hrow3 hs1 hR2
        have hly : (vs.length : Int) ≤ 1000000000 := by omega
        go_wp2_with fail
        clear s0 s1 f1 t0 t1
        generalize w3.setCell ⟨w.heap.size, 1, none⟩ (.slice (some ⟨g, 0, none⟩) us.length c3) = w4 at *
        go_loopw [31] (fun c31 wr => ∃ j : Nat, j ≤ vs.length ∧ c31 = .int .i64 j ∧ Hid (OwnV 4 wr (w.heap.size + 3) (.slice (some ⟨g, 0, none⟩) us.length c3) ((orK us vs j).map .bool)) ∧ Hid (TS [g] w4 wr)) (fun c31 wr => vs.length - (intOf c31).toNat)
        case atStart => exact ⟨0, by omega, rfl, by show OwnV _ _ _ _ _; rw [orK_zero]; exact HO.out, TS.refl _ _⟩
        case round =>
          obtain ⟨j, hj, rfl, HOr, HT⟩ := hrel
          have HR1r := Lib.hid ((HT.out.block _ (Array.getElem?_eq_some_iff.1 HR1.out).1 (by simp; omega)).trans HR1.out)
          by_cases hlt : j < vs.length
          · have hjy : j < us.length := by have := HLN.out; omega
            have hjx : (j : Int) < (vs.length : Int) := by omega
            have hjz : (j : Int) < (us.length : Int) := by omega
            have HRBr := Lib.hid (HT.out.rdV HRB4.out (fun ad ha hm => by have := HBK.out ad ha; simp at hm; omega))
            obtain ⟨b, ob, rfl, hcb⟩ := RdV.bcell HRBr.out hlt
            rw [← getD_at hlt] at hcb
            have hxn : (us.getD j false || vs.getD j false) = (us.getD j false || vs.getD j false) := rfl
            have hxa : ((orK us vs j).map Value.bool)[j]'(by rw [List.length_map, orK_len]; exact hjy) = .bool (us.getD j false) := by
              rw [List.getElem_map]
              have := orK_get (us := us) (vs := vs) (j := j) hjy
              rw [List.getElem?_eq_getElem (by rw [orK_len]; exact hjy)] at this
              simp only [Option.some.injEq] at this
              rw [this]; simp
            obtain ⟨xn, hxn'⟩ : ∃ xn, xn = (us.getD j false || vs.getD j false) := ⟨_, rfl⟩
            have HXN := Lib.hid hxn'.symm
            clear hxn
            obtain ⟨xb, hxb⟩ : ∃ xb, xb = vs.getD j false := ⟨_, rfl⟩
            rw [← hxb] at hcb hxn'
            clear hxb
            cases hua : us.getD j false
            · rw [hua] at hxa hxn'
              simp only [Bool.false_or] at hxn'
              subst hxn'
              clear hua
              go_wp2_with fail
              obtain ⟨W0, hW0⟩ : ∃ W0 : World, W0 = wr := ⟨_, rfl⟩
              rw [← hW0]
              refine region_schL (E := FB) 12 ((0, true) :: (1, true) :: (2, true) :: (3, true) :: (4, true) :: (5, true) :: (6, true) :: (7, true) :: (8, true) :: (9, true) :: (10, true) :: (11, true) :: []) (by kernel_rfl) FB.refl fb_trans (fun _ _ d _ _ h => by cases d <;> exact h) (by kernel_rfl) ?_
              intro ops hops0
              have hops := Lib.hid hops0
              clear hops0
              have HF : FB W0 W0.drew := (FB.refl _).drew
              generalize W0.drew = wF at *
              have HFq := Lib.hid (show FB wr wF from by rw [← hW0]; exact HF)
              clear hW0 HF
              have HRq := Lib.hid ((HFq.out.block _ (Array.getElem?_eq_some_iff.1 HR1r.out).1).trans HR1r.out)
              have HOq := Lib.hid (OwnV.below HOr.out HFq.out)
              obtain ⟨s0, sf, sset⟩ := OwnV.cellset HOq.out (j := j) (by rw [List.length_map, orK_len]; exact hjy)
              rw [hxa] at s0
              have HS0 := Lib.hid s0
              have HSF := Lib.hid sf
              have HSS := Lib.hid sset
              clear s0 sf sset
              repeat (refine sch_take (o := ?_) (v := ?_) (a' := ?_) (at_of hops.out ?_) ?_ (fun W hW => ?_) ?_ ?_; rotate_left 3; (focus (simp only [List.getElem?_toArray, List.getElem?_cons_zero, List.getElem?_cons_succ]; rfl)); (focus (rw [hops.out]; rfl)); (focus (have u1 := (row2 ((FB.block hW _ (Array.getElem?_eq_some_iff.1 HRq.out).1).trans HRq.out)).2; have u2 := FB.cell hW HS0.out; go_simp; with_reducible rfl)); (focus (simp only [Act.put, List.setIfInBounds_toArray, List.set_cons_zero, List.set_cons_succ]; rfl)))
              repeat (refine sch_skip (o := ?_) (a' := ?_) FB.refl (at_of hops.out ?_) ?_ ?_ ?_; rotate_left 2; (focus (simp only [List.getElem?_toArray, List.getElem?_cons_zero, List.getElem?_cons_succ]; rfl)); (focus (rw [hops.out]; rfl)); (focus (simp only [Act.put, List.setIfInBounds_toArray, List.set_cons_zero, List.set_cons_succ]; rfl)))
              repeat (refine sch_take (o := ?_) (v := ?_) (a' := ?_) (at_of hops.out ?_) ?_ (fun W hW => ?_) ?_ ?_; rotate_left 3; (focus (simp only [List.getElem?_toArray, List.getElem?_cons_zero, List.getElem?_cons_succ]; rfl)); (focus (rw [hops.out]; rfl)); (focus (have u1 := (row2 ((FB.block hW _ (Array.getElem?_eq_some_iff.1 HRq.out).1).trans HRq.out)).2; have u2 := FB.cell hW HS0.out; go_simp; with_reducible rfl)); (focus (simp only [Act.put, List.setIfInBounds_toArray, List.set_cons_zero, List.set_cons_succ]; rfl)))
              have u3 := HS0.out
              have u4 := HSF.out
              (refine schL_store (o := ?_) (w' := wF.setCell ⟨g, j, none⟩ (.bool xn)) (at_of hops.out ?_) ?_ 4 (.tmp 47) (.tmp 46) ?_ (.pointer (some ⟨g, j, none⟩)) (.bool xn) ?_ ?_ ?_ ?_; rotate_left 1; (focus (simp only [List.getElem?_toArray, List.getElem?_cons_zero, List.getElem?_cons_succ]; rfl)); (focus (rw [hops.out]; rfl)); (focus rfl); (focus rfl); (focus rfl); (focus (go_simp)))
              have HO2 := Lib.hid (show OwnV 4 (wF.setCell ⟨g, j, none⟩ (.bool xn)) (w.heap.size + 3) (.slice (some ⟨g, 0, none⟩) us.length c3) ((orK us vs (j + 1)).map .bool) from by
                rw [orK_succ hjy, List.map_set, HXN.out]; exact HSS.out _)
              have HT2 := Lib.hid ((HT.out.then (TS.of HFq.out)).then (show TS [g] wF (wF.setCell ⟨g, j, none⟩ (.bool xn)) from TS.tb (TB.set wF j _) (by simp)))
              clear u3 u4 hops
              go_wp2
              go_roundw
              case rel => exact ⟨j + 1, by omega, by go_num, HO2.out, HT2.out⟩
              case measure => simp [intOf]; omega
            · rw [hua] at hxa hxn'
              simp only [Bool.true_or] at hxn'
              subst hxn'
              clear hua
              go_wp2_with fail
              obtain ⟨W0, hW0⟩ : ∃ W0 : World, W0 = wr := ⟨_, rfl⟩
              rw [← hW0]
              refine region_schL (E := FB) 12 ((0, true) :: (1, true) :: (2, true) :: (3, true) :: (4, true) :: (5, true) :: (6, true) :: (7, true) :: (8, true) :: (9, true) :: (10, true) :: (11, true) :: []) (by kernel_rfl) FB.refl fb_trans (fun _ _ d _ _ h => by cases d <;> exact h) (by kernel_rfl) ?_
              intro ops hops0
              have hops := Lib.hid hops0
              clear hops0
              have HF : FB W0 W0.drew := (FB.refl _).drew
              generalize W0.drew = wF at *
              have HFq := Lib.hid (show FB wr wF from by rw [← hW0]; exact HF)
              clear hW0 HF
              have HRq := Lib.hid ((HFq.out.block _ (Array.getElem?_eq_some_iff.1 HR1r.out).1).trans HR1r.out)
              have HOq := Lib.hid (OwnV.below HOr.out HFq.out)
              obtain ⟨s0, sf, sset⟩ := OwnV.cellset HOq.out (j := j) (by rw [List.length_map, orK_len]; exact hjy)
              rw [hxa] at s0
              have HS0 := Lib.hid s0
              have HSF := Lib.hid sf
              have HSS := Lib.hid sset
              clear s0 sf sset
              repeat (refine sch_take (o := ?_) (v := ?_) (a' := ?_) (at_of hops.out ?_) ?_ (fun W hW => ?_) ?_ ?_; rotate_left 3; (focus (simp only [List.getElem?_toArray, List.getElem?_cons_zero, List.getElem?_cons_succ]; rfl)); (focus (rw [hops.out]; rfl)); (focus (have u1 := (row2 ((FB.block hW _ (Array.getElem?_eq_some_iff.1 HRq.out).1).trans HRq.out)).2; have u2 := FB.cell hW HS0.out; go_simp; with_reducible rfl)); (focus (simp only [Act.put, List.setIfInBounds_toArray, List.set_cons_zero, List.set_cons_succ]; rfl)))
              repeat (refine sch_skip (o := ?_) (a' := ?_) FB.refl (at_of hops.out ?_) ?_ ?_ ?_; rotate_left 2; (focus (simp only [List.getElem?_toArray, List.getElem?_cons_zero, List.getElem?_cons_succ]; rfl)); (focus (rw [hops.out]; rfl)); (focus (simp only [Act.put, List.setIfInBounds_toArray, List.set_cons_zero, List.set_cons_succ]; rfl)))
              repeat (refine sch_take (o := ?_) (v := ?_) (a' := ?_) (at_of hops.out ?_) ?_ (fun W hW => ?_) ?_ ?_; rotate_left 3; (focus (simp only [List.getElem?_toArray, List.getElem?_cons_zero, List.getElem?_cons_succ]; rfl)); (focus (rw [hops.out]; rfl)); (focus (have u1 := (row2 ((FB.block hW _ (Array.getElem?_eq_some_iff.1 HRq.out).1).trans HRq.out)).2; have u2 := FB.cell hW HS0.out; go_simp; with_reducible rfl)); (focus (simp only [Act.put, List.setIfInBounds_toArray, List.set_cons_zero, List.set_cons_succ]; rfl)))
              have u3 := HS0.out
              have u4 := HSF.out
              (refine schL_store (o := ?_) (w' := wF.setCell ⟨g, j, none⟩ (.bool true)) (at_of hops.out ?_) ?_ 4 (.tmp 47) (.tmp 46) ?_ (.pointer (some ⟨g, j, none⟩)) (.bool true) ?_ ?_ ?_ ?_; rotate_left 1; (focus (simp only [List.getElem?_toArray, List.getElem?_cons_zero, List.getElem?_cons_succ]; rfl)); (focus (rw [hops.out]; rfl)); (focus rfl); (focus rfl); (focus rfl); (focus (go_simp)))
              have HO2 := Lib.hid (show OwnV 4 (wF.setCell ⟨g, j, none⟩ (.bool true)) (w.heap.size + 3) (.slice (some ⟨g, 0, none⟩) us.length c3) ((orK us vs (j + 1)).map .bool) from by
                rw [orK_succ hjy, List.map_set, HXN.out]; exact HSS.out _)
              have HT2 := Lib.hid ((HT.out.then (TS.of HFq.out)).then (show TS [g] wF (wF.setCell ⟨g, j, none⟩ (.bool true)) from TS.tb (TB.set wF j _) (by simp)))
              clear u3 u4 hops
              go_wp2
              go_roundw
              case rel => exact ⟨j + 1, by omega, by go_num, HO2.out, HT2.out⟩
              case measure => simp [intOf]; omega
          · obtain rfl : j = vs.length := by omega
            have hjx : ¬ (vs.length : Int) < (vs.length : Int) := by omega
            have hrow1 := HR1r.out
            have hrow3 := (HT.out.block _ (Array.getElem?_eq_some_iff.1 HR3.out).1 (by simp; omega)).trans HR3.out
            obtain ⟨t0, t1⟩ := row2 hrow1
            have hst := sp_store (.int .i64 P) (.slice (some ⟨g, 0, none⟩) us.length c3) hrow3 (by simp [Value.oneCell'])
            have HROW := Lib.hid (setRow_heap wr (w.heap.size + 2) _ #[.int .i64 P, .slice (some ⟨g, 0, none⟩) us.length c3] _ _ hrow3)
            have HEND := Lib.hid (FB.setRow (FB.ts HF4.out HT.out (fun x hx => by simp at hx; omega)) (g := w.heap.size + 2) (by omega) #[.int .i64 P, .slice (some ⟨g, 0, none⟩) us.length c3])
            have HOE := Lib.hid (OwnV.info ((TS.tb (F := [w.heap.size + 2]) (TB.setRow (w.heap.size + 2) wr #[.int .i64 P, .slice (some ⟨g, 0, none⟩) us.length c3]) (by simp)).ownV HOr.out (fun b hb' hm => by cases hb'; simp at hm; omega)))
            clear hrow1 hrow3
            go_wp2_with (refine wpList_store_by rfl _ _ _ rfl _ hst ?_)
            try simp only [Exit.inBlock, Exit.then]
            refine bodyPost_ret (sp_ret rfl _ (w.heap.size + 2) rfl _ HROW.out) rfl ?_
            refine ⟨some ⟨g, 0, none⟩, c3, ?_, ?_, ?_, HOE.out.2.1, HEND.out⟩
            · simp [orL, orK_len]
            · have := HOE.out.2.2.1
              simp only
              rw [show orL us vs = orK us vs vs.length from by unfold orL; rw [HLN.out]]; exact this
            · have := HOE.out.1
              simp only [orL, orK_len, List.length_map] at this ⊢
              exact this
      · rw [if_neg (fun h => hpq h.2.2)]
        have hbe : (P != Q) = true := by simpa using hpq
        clear hpq hoa hob
        go_enter Try.func34, Try.ntmps34
        go_wp2_with fail
        generalize ((w.alloc (.cells #[.int .i64 P, .slice A us.length ca] 41)).alloc (.cells #[.int .i64 Q, .slice B vs.length cb] 41)).alloc (.cells #[.int .i64 0, .slice none 0 0] 41) = w0 at *
        refine (HCA.out _ (FB.refl _)).mono ?_
        rintro e w1 ⟨rfl, hb⟩
        have HF1 := Lib.hid hb
        clear hb q0 q1 r0 r1
        obtain ⟨s0, s1⟩ := row2 ((HF1.out.block _ (Array.getElem?_eq_some_iff.1 HB1.out).1).trans HB1.out)
        obtain ⟨t0, t1⟩ := row2 ((HF1.out.block _ (Array.getElem?_eq_some_iff.1 HB2.out).1).trans HB2.out)
        go_wp2_with fail
        refine (HCB.out _ HF1.out).mono ?_
        rintro e w2 ⟨rfl, hb⟩
        have HF2 := Lib.hid (HF1.out.trans hb)
        clear hb s0 s1 t0 t1
        obtain ⟨s0, s1⟩ := row2 ((HF2.out.block _ (Array.getElem?_eq_some_iff.1 HB1.out).1).trans HB1.out)
        obtain ⟨t0, t1⟩ := row2 ((HF2.out.block _ (Array.getElem?_eq_some_iff.1 HB2.out).1).trans HB2.out)
        have hrow3 := (HF2.out.block _ (Array.getElem?_eq_some_iff.1 HB3.out).1).trans HB3.out
        have hst := sp_store (.int .i64 0) (.slice none 0 0) hrow3 (by simp [Value.oneCell'])
        have HROW := Lib.hid (setRow_heap w2 (w.heap.size + 2) _ #[.int .i64 0, .slice none 0 0] _ _ hrow3)
        have HEND := Lib.hid ((HF.out.trans HF2.out).setRow (g := w.heap.size + 2) (by omega) #[.int .i64 0, .slice none 0 0])
        clear hrow3
        go_wp2_with (refine wpList_store_by rfl _ _ _ rfl _ hst ?_)
        try simp only [Exit.inBlock, Exit.then]
        refine bodyPost_ret (sp_ret rfl _ (w.heap.size + 2) rfl _ HROW.out) rfl ?_
        exact SpR.none 2 HEND.out
    · rw [if_neg (fun h => hob h.2.1)]
      have hch : spChk Q vs = 2 := by unfold spChk; rw [if_neg hob]
      rw [hch] at HCB
      clear hch hoa hob
      go_enter Try.func34, Try.ntmps34
      go_wp2_with fail
      generalize ((w.alloc (.cells #[.int .i64 P, .slice A us.length ca] 41)).alloc (.cells #[.int .i64 Q, .slice B vs.length cb] 41)).alloc (.cells #[.int .i64 0, .slice none 0 0] 41) = w0 at *
      refine (HCA.out _ (FB.refl _)).mono ?_
      rintro e w1 ⟨rfl, hb⟩
      have HF1 := Lib.hid hb
      clear hb q0 q1 r0 r1
      obtain ⟨t0, t1⟩ := row2 ((HF1.out.block _ (Array.getElem?_eq_some_iff.1 HB2.out).1).trans HB2.out)
      go_wp2_with fail
      refine (HCB.out _ HF1.out).mono ?_
      rintro e w2 ⟨rfl, hb⟩
      have HF2 := Lib.hid (HF1.out.trans hb)
      clear hb t0 t1
      have hrow3 := (HF2.out.block _ (Array.getElem?_eq_some_iff.1 HB3.out).1).trans HB3.out
      have hst := sp_store (.int .i64 0) (.slice none 0 0) hrow3 (by simp [Value.oneCell'])
      have HROW := Lib.hid (setRow_heap w2 (w.heap.size + 2) _ #[.int .i64 0, .slice none 0 0] _ _ hrow3)
      have HEND := Lib.hid ((HF.out.trans HF2.out).setRow (g := w.heap.size + 2) (by omega) #[.int .i64 0, .slice none 0 0])
      clear hrow3
      go_wp2_with (refine wpList_store_by rfl _ _ _ rfl _ hst ?_)
      try simp only [Exit.inBlock, Exit.then]
      refine bodyPost_ret (sp_ret rfl _ (w.heap.size + 2) rfl _ HROW.out) rfl ?_
      exact SpR.none 2 HEND.out
  · rw [if_neg (fun h => hoa h.1)]
    have hch : spChk P us = 2 := by unfold spChk; rw [if_neg hoa]
    rw [hch] at HCA
    clear hch hoa
    go_enter Try.func34, Try.ntmps34
    go_wp2_with fail
    generalize ((w.alloc (.cells #[.int .i64 P, .slice A us.length ca] 41)).alloc (.cells #[.int .i64 Q, .slice B vs.length cb] 41)).alloc (.cells #[.int .i64 0, .slice none 0 0] 41) = w0 at *
    refine (HCA.out _ (FB.refl _)).mono ?_
    rintro e w2 ⟨rfl, hb⟩
    have HF2 := Lib.hid hb
    clear hb q0 q1 r0 r1
    have hrow3 := (HF2.out.block _ (Array.getElem?_eq_some_iff.1 HB3.out).1).trans HB3.out
    have hst := sp_store (.int .i64 0) (.slice none 0 0) hrow3 (by simp [Value.oneCell'])
    have HROW := Lib.hid (setRow_heap w2 (w.heap.size + 2) _ #[.int .i64 0, .slice none 0 0] _ _ hrow3)
    have HEND := Lib.hid ((HF.out.trans HF2.out).setRow (g := w.heap.size + 2) (by omega) #[.int .i64 0, .slice none 0 0])
    clear hrow3
    go_wp2_with (refine wpList_store_by rfl _ _ _ rfl _ hst ?_)
    try simp only [Exit.inBlock, Exit.then]
    refine bodyPost_ret (sp_ret rfl _ (w.heap.size + 2) rfl _ HROW.out) rfl ?_
    exact SpR.none 2 HEND.out
end Go.Proofs.Ytjhgnohofcahbaa
