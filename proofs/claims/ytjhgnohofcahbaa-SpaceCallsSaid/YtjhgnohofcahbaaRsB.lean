/- the reference of layer 8: Check, Use, Give. -/
import Derived.Test.YtjhgnohofcahbaaRsA
set_option linter.unusedVariables false
set_option linter.unusedSimpArgs false
namespace Go.Proofs.Ytjhgnohofcahbaa
open Go.ChangeShapes Go.WideShapes Go.ChangeAt Go.RowKit
attribute [local go_sem] nb_nonneg nb_lt8 nb_lt64
set_option maxRecDepth 100000

set_option maxHeartbeats 1000000 in
theorem rs_Check (P : Int) (us : List Bool) (A : Option Addr) (c : Nat) (w : World) (hr : RdV w A (us.map .bool)) (hl : us.length ≤ 9223372036854775807) :
    Calls Try.prog 45 #[.agg #[.int .i64 P, .slice A us.length c]] w fun e w' => e = .returned (.int .i64 (spChk P us)) ∧ FB w w' := by
  have HF := Lib.hid ((FB.refl w).alloc (.cells #[.int .i64 P, .slice A us.length c] 41))
  have HR := Lib.hid (HF.out.rdV hr)
  obtain ⟨R, hR⟩ : ∃ R, R = spChk P us := ⟨_, rfl⟩
  rw [← hR]
  unfold spChk at hR
  clear hr
  by_cases h1 : P < 8
  · obtain rfl : R = 2 := by rw [hR, if_neg (by rw [spOk_iff]; omega)]
    clear hR
    go_enter Try.func45, Try.ntmps45
    go_wp2
    go_ret
    exact ⟨rfl, HF.out⟩
  · by_cases h2 : 4096 < P
    · obtain rfl : R = 2 := by rw [hR, if_neg (by rw [spOk_iff]; omega)]
      clear hR
      go_enter Try.func45, Try.ntmps45
      go_wp2
      go_ret
      exact ⟨rfl, HF.out⟩
    · by_cases h3 : (us.length : Int) = P
      · have hb3 : ((us.length : Int) != P) = false := by simp [h3]
        obtain ⟨b, o, rfl, hc0⟩ := RdV.bcell HR.out (j := 0) (by omega)
        obtain ⟨b', o', e', hc1⟩ := RdV.bcell HR.out (j := 1) (by omega)
        cases e'
        rw [Nat.add_zero] at hc0
        have hl0 : (0 : Int) < (us.length : Int) := by omega
        have hl1 : (1 : Int) < (us.length : Int) := by omega
        have hg0 : us.getD 0 false = us[0]'(by omega) := by rw [List.getD_eq_getElem?_getD, List.getElem?_eq_getElem (by omega)]; rfl
        have hg1 : us.getD 1 false = us[1]'(by omega) := by rw [List.getD_eq_getElem?_getD, List.getElem?_eq_getElem (by omega)]; rfl
        have hok : spOk P us = (us.getD 0 false && us.getD 1 false) := by
          unfold spOk
          rw [decide_eq_true (by omega : 8 ≤ P), decide_eq_true (by omega : P ≤ 4096), decide_eq_true h3]; rfl
        rw [hok, hg0, hg1] at hR
        clear hok hg0 hg1
        generalize us[0]'(by omega) = b0 at *
        generalize us[1]'(by omega) = b1 at *
        have HRR := Lib.hid hR
        clear hR h3
        go_enter Try.func45, Try.ntmps45
        cases b0
        · have hrr : R = 2 := by rw [HRR.out]; rfl
          have HRR2 := Lib.hid hrr
          clear hrr
          go_wp2
          go_ret
          exact ⟨by rw [HRR2.out]; rfl, HF.out⟩
        · cases b1
          · have hrr : R = 2 := by rw [HRR.out]; rfl
            have HRR2 := Lib.hid hrr
            clear hrr
            go_wp2
            go_ret
            exact ⟨by rw [HRR2.out]; rfl, HF.out⟩
          · have hrr : R = 0 := by rw [HRR.out]; rfl
            have HRR2 := Lib.hid hrr
            clear hrr
            go_wp2
            go_ret
            exact ⟨by rw [HRR2.out]; rfl, HF.out⟩
      · have hb3 : ((us.length : Int) != P) = true := by simpa using h3
        obtain rfl : R = 2 := by rw [hR, if_neg (by rw [spOk_iff]; omega)]
        clear hR h3
        go_enter Try.func45, Try.ntmps45
        go_wp2
        go_ret
        exact ⟨rfl, HF.out⟩
set_option maxHeartbeats 1000000 in
theorem rs_Use (P : Int) (us : List Bool) (A : Option Addr) (c : Nat) (k : Int) (w : World) (hr : RdV w A (us.map .bool)) (hl : us.length ≤ 1000000000) (hc : us.length ≤ c) (hm : c ≤ maxLen) :
    Calls Try.prog 38 #[.agg #[.int .i64 P, .slice A us.length c], .int .i64 k] w fun e w' => SpRF (spUse P us k) w e w' := by
  have HF := Lib.hid (((FB.refl w).alloc (.cells #[.int .i64 P, .slice A us.length c] 41)).alloc (.cells #[.int .i64 0, .slice none 0 0] 41))
  have HR := Lib.hid hr
  have HCK := Lib.hid (rs_Check P us A c ((w.alloc (.cells #[.int .i64 P, .slice A us.length c] 41)).alloc (.cells #[.int .i64 0, .slice none 0 0] 41)) (HF.out.rdV hr) (by omega))
  have HB1 := Lib.hid (show ((w.alloc (.cells #[.int .i64 P, .slice A us.length c] 41)).alloc (.cells #[.int .i64 0, .slice none 0 0] 41)).heap[w.heap.size]? = some (.cells #[.int .i64 P, .slice A us.length c] 41 (0, 0)) from by
    rw [((FB.refl (w.alloc (.cells #[.int .i64 P, .slice A us.length c] 41))).alloc _).block _ (by simp)]; exact heap_alloc_new _ _)
  have HB2 := Lib.hid (show ((w.alloc (.cells #[.int .i64 P, .slice A us.length c] 41)).alloc (.cells #[.int .i64 0, .slice none 0 0] 41)).heap[w.heap.size + 1]? = some (.cells #[.int .i64 0, .slice none 0 0] 41 (0, 0)) from by
    have := heap_alloc_new (w.alloc (.cells #[.int .i64 P, .slice A us.length c] 41)) (.cells #[.int .i64 0, .slice none 0 0] 41)
    simpa using this)
  clear hr
  unfold spUse
  by_cases hok : spOk P us = true
  · have hch : spChk P us = 0 := by unfold spChk; rw [if_pos hok]
    rw [hch] at HCK
    have hP := (spOk_iff.1 hok).2.2.1
    have HOK := Lib.hid hok
    clear hch hok
    by_cases h1 : 0 ≤ k ∧ k < P
    · obtain ⟨kn, rfl⟩ : ∃ kn : Nat, k = (kn : Int) := ⟨k.toNat, by omega⟩
      have hkn : kn < us.length := by omega
      have hkx : (kn : Int) < (us.length : Int) := by omega
      have hkP : (kn : Int) < P := h1.2
      rw [if_pos ⟨HOK.out, h1⟩, Int.toNat_natCast, getD_at hkn]
      have hch0 : ¬ (kn : Int) < 0 := by omega
      obtain ⟨b, o, rfl, hcell0⟩ := RdV.bcell HR.out hkn
      generalize hU : us[kn] = u at *
      clear hU hP h1
      cases u
      · rw [if_neg (by simp)]
        go_enter Try.func38, Try.ntmps38
        go_wp2_with fail
        refine HCK.out.mono ?_
        rintro e w1 ⟨rfl, hb⟩
        have HF1 := Lib.hid (HF.out.trans hb)
        have hrow1 := (hb.block _ (Array.getElem?_eq_some_iff.1 HB1.out).1).trans HB1.out
        have HRW2 := Lib.hid ((hb.block _ (Array.getElem?_eq_some_iff.1 HB2.out).1).trans HB2.out)
        obtain ⟨q0, q1⟩ := row2 hrow1
        have hcell := HF1.out.cell hcell0
        clear hb hrow1 hcell0
        go_wp2_with fail
        refine (rs_with P us _ c kn true _ (HF1.out.rdV HR.out) hl hkn).mono ?_
        rintro e w2 ⟨A2, c2, rfl, ho, hb⟩
        have hrow2 := (hb.block _ (Array.getElem?_eq_some_iff.1 HRW2.out).1).trans HRW2.out
        have hst := sp_store (.int .i64 P) (.slice A2 us.length c2) hrow2 (by simp [Value.oneCell'])
        have HROW := Lib.hid (setRow_heap w2 (w.heap.size + 1) _ #[.int .i64 P, .slice A2 us.length c2] _ _ hrow2)
        have HEND := Lib.hid ((HF1.out.trans hb).setRow (g := w.heap.size + 1) (by omega) #[.int .i64 P, .slice A2 us.length c2])
        have HO := Lib.hid (OwnV.info ((TS.tb (F := [w.heap.size + 1]) (TB.setRow (w.heap.size + 1) w2 #[.int .i64 P, .slice A2 us.length c2]) (by simp)).ownV ho (fun b hb' hm => by
          have h1 := (OwnV.base ho b hb').1
          have h2 := (Array.getElem?_eq_some_iff.1 HRW2.out).1
          simp at hm; omega)))
        clear hb ho hrow2 q0 q1 hcell
        go_wp2_with (refine wpList_store_by rfl _ _ _ rfl _ hst ?_)
        try simp only [Exit.inBlock, Exit.then]
        refine bodyPost_ret (sp_ret rfl _ (w.heap.size + 1) rfl _ HROW.out) rfl ?_
        exact ⟨A2, c2, by simp, HO.out.2.2.1, by have := HO.out.1; simpa using this, HO.out.2.1, HEND.out, fun ad ha => ⟨Nat.le_trans HF1.out.le (HO.out.2.2.2.2 ad ha).1, (HO.out.2.2.2.2 ad ha).2⟩⟩
      · rw [if_pos rfl]
        go_enter Try.func38, Try.ntmps38
        go_wp2_with fail
        refine HCK.out.mono ?_
        rintro e w1 ⟨rfl, hb⟩
        have HF1 := Lib.hid (HF.out.trans hb)
        have hrow1 := (hb.block _ (Array.getElem?_eq_some_iff.1 HB1.out).1).trans HB1.out
        have hrow2 := ((hb.block _ (Array.getElem?_eq_some_iff.1 HB2.out).1).trans HB2.out)
        obtain ⟨q0, q1⟩ := row2 hrow1
        have hcell := HF1.out.cell hcell0
        have hst := sp_store (.int .i64 0) (.slice none 0 0) hrow2 (by simp [Value.oneCell'])
        have HROW := Lib.hid (setRow_heap w1 (w.heap.size + 1) _ #[.int .i64 0, .slice none 0 0] _ _ hrow2)
        have HEND := Lib.hid (HF1.out.setRow (g := w.heap.size + 1) (by omega) #[.int .i64 0, .slice none 0 0])
        clear hb hrow1 hcell0 hrow2
        go_wp2_with (refine wpList_store_by rfl _ _ _ rfl _ hst ?_)
        try simp only [Exit.inBlock, Exit.then]
        refine bodyPost_ret (sp_ret rfl _ (w.heap.size + 1) rfl _ HROW.out) rfl ?_
        exact SpRF.none 7 HEND.out
    · rw [if_neg (fun h => h1 h.2)]
      have hcs : k < 0 ∨ (¬ k < 0 ∧ P ≤ k) := by omega
      clear h1 hP
      rcases hcs with hcs | ⟨hcs, hcs2⟩
      all_goals
        go_enter Try.func38, Try.ntmps38
        go_wp2_with fail
        refine HCK.out.mono ?_
        rintro e w1 ⟨rfl, hb⟩
        have HF1 := Lib.hid (HF.out.trans hb)
        have hrow1 := (hb.block _ (Array.getElem?_eq_some_iff.1 HB1.out).1).trans HB1.out
        have hrow2 := ((hb.block _ (Array.getElem?_eq_some_iff.1 HB2.out).1).trans HB2.out)
        obtain ⟨q0, q1⟩ := row2 hrow1
        have hst := sp_store (.int .i64 0) (.slice none 0 0) hrow2 (by simp [Value.oneCell'])
        have HROW := Lib.hid (setRow_heap w1 (w.heap.size + 1) _ #[.int .i64 0, .slice none 0 0] _ _ hrow2)
        have HEND := Lib.hid (HF1.out.setRow (g := w.heap.size + 1) (by omega) #[.int .i64 0, .slice none 0 0])
        clear hb hrow1 hrow2
        go_wp2_with (refine wpList_store_by rfl _ _ _ rfl _ hst ?_)
        try simp only [Exit.inBlock, Exit.then]
        refine bodyPost_ret (sp_ret rfl _ (w.heap.size + 1) rfl _ HROW.out) rfl ?_
        exact SpRF.none 2 HEND.out
  · rw [if_neg (fun h => hok h.1)]
    have hch : spChk P us = 2 := by unfold spChk; rw [if_neg hok]
    rw [hch] at HCK
    clear hch hok
    go_enter Try.func38, Try.ntmps38
    go_wp2_with fail
    refine HCK.out.mono ?_
    rintro e w1 ⟨rfl, hb⟩
    have HF1 := Lib.hid (HF.out.trans hb)
    have hrow2 := ((hb.block _ (Array.getElem?_eq_some_iff.1 HB2.out).1).trans HB2.out)
    have hst := sp_store (.int .i64 0) (.slice none 0 0) hrow2 (by simp [Value.oneCell'])
    have HROW := Lib.hid (setRow_heap w1 (w.heap.size + 1) _ #[.int .i64 0, .slice none 0 0] _ _ hrow2)
    have HEND := Lib.hid (HF1.out.setRow (g := w.heap.size + 1) (by omega) #[.int .i64 0, .slice none 0 0])
    clear hb hrow2
    go_wp2_with (refine wpList_store_by rfl _ _ _ rfl _ hst ?_)
    try simp only [Exit.inBlock, Exit.then]
    refine bodyPost_ret (sp_ret rfl _ (w.heap.size + 1) rfl _ HROW.out) rfl ?_
    exact SpRF.none 2 HEND.out
set_option maxHeartbeats 1000000 in
theorem rs_Give (P : Int) (us : List Bool) (A : Option Addr) (c : Nat) (k : Int) (w : World) (hr : RdV w A (us.map .bool)) (hl : us.length ≤ 1000000000) (hc : us.length ≤ c) (hm : c ≤ maxLen) :
    Calls Try.prog 39 #[.agg #[.int .i64 P, .slice A us.length c], .int .i64 k] w fun e w' => SpRF (spGive P us k) w e w' := by
  have HF := Lib.hid (((FB.refl w).alloc (.cells #[.int .i64 P, .slice A us.length c] 41)).alloc (.cells #[.int .i64 0, .slice none 0 0] 41))
  have HR := Lib.hid hr
  have HCK := Lib.hid (rs_Check P us A c ((w.alloc (.cells #[.int .i64 P, .slice A us.length c] 41)).alloc (.cells #[.int .i64 0, .slice none 0 0] 41)) (HF.out.rdV hr) (by omega))
  have HB1 := Lib.hid (show ((w.alloc (.cells #[.int .i64 P, .slice A us.length c] 41)).alloc (.cells #[.int .i64 0, .slice none 0 0] 41)).heap[w.heap.size]? = some (.cells #[.int .i64 P, .slice A us.length c] 41 (0, 0)) from by
    rw [((FB.refl (w.alloc (.cells #[.int .i64 P, .slice A us.length c] 41))).alloc _).block _ (by simp)]; exact heap_alloc_new _ _)
  have HB2 := Lib.hid (show ((w.alloc (.cells #[.int .i64 P, .slice A us.length c] 41)).alloc (.cells #[.int .i64 0, .slice none 0 0] 41)).heap[w.heap.size + 1]? = some (.cells #[.int .i64 0, .slice none 0 0] 41 (0, 0)) from by
    have := heap_alloc_new (w.alloc (.cells #[.int .i64 P, .slice A us.length c] 41)) (.cells #[.int .i64 0, .slice none 0 0] 41)
    simpa using this)
  clear hr
  unfold spGive
  by_cases hok : spOk P us = true
  · have hch : spChk P us = 0 := by unfold spChk; rw [if_pos hok]
    rw [hch] at HCK
    have hP := (spOk_iff.1 hok).2.2.1
    have HOK := Lib.hid hok
    clear hch hok
    by_cases h1 : 2 ≤ k ∧ k < P
    · obtain ⟨kn, rfl⟩ : ∃ kn : Nat, k = (kn : Int) := ⟨k.toNat, by omega⟩
      have hkn : kn < us.length := by omega
      have hkx : (kn : Int) < (us.length : Int) := by omega
      have hkP : (kn : Int) < P := h1.2
      rw [if_pos ⟨HOK.out, h1⟩, Int.toNat_natCast, getD_at hkn]
      have hch0 : ¬ (kn : Int) < 2 := by omega
      obtain ⟨b, o, rfl, hcell0⟩ := RdV.bcell HR.out hkn
      generalize hU : us[kn] = u at *
      clear hU hP h1
      cases u
      · rw [if_neg (by simp)]
        go_enter Try.func39, Try.ntmps39
        go_wp2_with fail
        refine HCK.out.mono ?_
        rintro e w1 ⟨rfl, hb⟩
        have HF1 := Lib.hid (HF.out.trans hb)
        have hrow1 := (hb.block _ (Array.getElem?_eq_some_iff.1 HB1.out).1).trans HB1.out
        have hrow2 := ((hb.block _ (Array.getElem?_eq_some_iff.1 HB2.out).1).trans HB2.out)
        obtain ⟨q0, q1⟩ := row2 hrow1
        have hcell := HF1.out.cell hcell0
        have hst := sp_store (.int .i64 0) (.slice none 0 0) hrow2 (by simp [Value.oneCell'])
        have HROW := Lib.hid (setRow_heap w1 (w.heap.size + 1) _ #[.int .i64 0, .slice none 0 0] _ _ hrow2)
        have HEND := Lib.hid (HF1.out.setRow (g := w.heap.size + 1) (by omega) #[.int .i64 0, .slice none 0 0])
        clear hb hrow1 hcell0 hrow2
        go_wp2_with (refine wpList_store_by rfl _ _ _ rfl _ hst ?_)
        try simp only [Exit.inBlock, Exit.then]
        refine bodyPost_ret (sp_ret rfl _ (w.heap.size + 1) rfl _ HROW.out) rfl ?_
        exact SpRF.none 6 HEND.out
      · rw [if_pos rfl]
        go_enter Try.func39, Try.ntmps39
        go_wp2_with fail
        refine HCK.out.mono ?_
        rintro e w1 ⟨rfl, hb⟩
        have HF1 := Lib.hid (HF.out.trans hb)
        have hrow1 := (hb.block _ (Array.getElem?_eq_some_iff.1 HB1.out).1).trans HB1.out
        have HRW2 := Lib.hid ((hb.block _ (Array.getElem?_eq_some_iff.1 HB2.out).1).trans HB2.out)
        obtain ⟨q0, q1⟩ := row2 hrow1
        have hcell := HF1.out.cell hcell0
        clear hb hrow1 hcell0
        go_wp2_with fail
        refine (rs_with P us _ c kn false _ (HF1.out.rdV HR.out) hl hkn).mono ?_
        rintro e w2 ⟨A2, c2, rfl, ho, hb⟩
        have hrow2 := (hb.block _ (Array.getElem?_eq_some_iff.1 HRW2.out).1).trans HRW2.out
        have hst := sp_store (.int .i64 P) (.slice A2 us.length c2) hrow2 (by simp [Value.oneCell'])
        have HROW := Lib.hid (setRow_heap w2 (w.heap.size + 1) _ #[.int .i64 P, .slice A2 us.length c2] _ _ hrow2)
        have HEND := Lib.hid ((HF1.out.trans hb).setRow (g := w.heap.size + 1) (by omega) #[.int .i64 P, .slice A2 us.length c2])
        have HO := Lib.hid (OwnV.info ((TS.tb (F := [w.heap.size + 1]) (TB.setRow (w.heap.size + 1) w2 #[.int .i64 P, .slice A2 us.length c2]) (by simp)).ownV ho (fun b hb' hm => by
          have h1 := (OwnV.base ho b hb').1
          have h2 := (Array.getElem?_eq_some_iff.1 HRW2.out).1
          simp at hm; omega)))
        clear hb ho hrow2 q0 q1 hcell
        go_wp2_with (refine wpList_store_by rfl _ _ _ rfl _ hst ?_)
        try simp only [Exit.inBlock, Exit.then]
        refine bodyPost_ret (sp_ret rfl _ (w.heap.size + 1) rfl _ HROW.out) rfl ?_
        exact ⟨A2, c2, by simp, HO.out.2.2.1, by have := HO.out.1; simpa using this, HO.out.2.1, HEND.out, fun ad ha => ⟨Nat.le_trans HF1.out.le (HO.out.2.2.2.2 ad ha).1, (HO.out.2.2.2.2 ad ha).2⟩⟩
    · rw [if_neg (fun h => h1 h.2)]
      have hcs : k < 2 ∨ (¬ k < 2 ∧ P ≤ k) := by omega
      clear h1 hP
      rcases hcs with hcs | ⟨hcs, hcs2⟩
      all_goals
        go_enter Try.func39, Try.ntmps39
        go_wp2_with fail
        refine HCK.out.mono ?_
        rintro e w1 ⟨rfl, hb⟩
        have HF1 := Lib.hid (HF.out.trans hb)
        have hrow1 := (hb.block _ (Array.getElem?_eq_some_iff.1 HB1.out).1).trans HB1.out
        have hrow2 := ((hb.block _ (Array.getElem?_eq_some_iff.1 HB2.out).1).trans HB2.out)
        obtain ⟨q0, q1⟩ := row2 hrow1
        have hst := sp_store (.int .i64 0) (.slice none 0 0) hrow2 (by simp [Value.oneCell'])
        have HROW := Lib.hid (setRow_heap w1 (w.heap.size + 1) _ #[.int .i64 0, .slice none 0 0] _ _ hrow2)
        have HEND := Lib.hid (HF1.out.setRow (g := w.heap.size + 1) (by omega) #[.int .i64 0, .slice none 0 0])
        clear hb hrow1 hrow2
        go_wp2_with (refine wpList_store_by rfl _ _ _ rfl _ hst ?_)
        try simp only [Exit.inBlock, Exit.then]
        refine bodyPost_ret (sp_ret rfl _ (w.heap.size + 1) rfl _ HROW.out) rfl ?_
        exact SpRF.none 2 HEND.out
  · rw [if_neg (fun h => hok h.1)]
    have hch : spChk P us = 2 := by unfold spChk; rw [if_neg hok]
    rw [hch] at HCK
    clear hch hok
    go_enter Try.func39, Try.ntmps39
    go_wp2_with fail
    refine HCK.out.mono ?_
    rintro e w1 ⟨rfl, hb⟩
    have HF1 := Lib.hid (HF.out.trans hb)
    have hrow2 := ((hb.block _ (Array.getElem?_eq_some_iff.1 HB2.out).1).trans HB2.out)
    have hst := sp_store (.int .i64 0) (.slice none 0 0) hrow2 (by simp [Value.oneCell'])
    have HROW := Lib.hid (setRow_heap w1 (w.heap.size + 1) _ #[.int .i64 0, .slice none 0 0] _ _ hrow2)
    have HEND := Lib.hid (HF1.out.setRow (g := w.heap.size + 1) (by omega) #[.int .i64 0, .slice none 0 0])
    clear hb hrow2
    go_wp2_with (refine wpList_store_by rfl _ _ _ rfl _ hst ?_)
    try simp only [Exit.inBlock, Exit.then]
    refine bodyPost_ret (sp_ret rfl _ (w.heap.size + 1) rfl _ HROW.out) rfl ?_
    exact SpRF.none 2 HEND.out
end Go.Proofs.Ytjhgnohofcahbaa
