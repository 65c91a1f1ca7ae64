/- space: the walks through Give, Both, Same. -/
import Derived.Test.YtjhgnohofcahbaaSpC
set_option linter.unusedVariables false
set_option linter.unusedSimpArgs false
namespace Go.Proofs.Ytjhgnohofcahbaa
open Go.ChangeShapes Go.WideShapes Go.ChangeAt Go.RowKit
set_option maxRecDepth 100000

set_option maxHeartbeats 1000000 in
theorem sp_GiveF (P : Int) (us : List Bool) (A : Option Addr) (c : Nat) (k : Int) (w : World) (hr : RdV w A (us.map .bool)) (hl : us.length ≤ 1000000000) (hc : us.length ≤ c) (hm : c ≤ maxLen) :
    Calls Try.prog 29 #[.agg #[.int .i64 P, .slice A us.length c], .int .i64 k] w fun e w' => SpRF (spGive P us k) w e w' := by
  have HF := Lib.hid (((FB.refl w).alloc (.cells #[.int .i64 P, .slice A us.length c] 41)).alloc (.cells #[.int .i64 0, .slice none 0 0] 41))
  have HR := Lib.hid hr
  have HCK := Lib.hid (sp_Check P us A c ((w.alloc (.cells #[.int .i64 P, .slice A us.length c] 41)).alloc (.cells #[.int .i64 0, .slice none 0 0] 41)) (HF.out.rdV hr) (by omega))
  have HB1 := Lib.hid (show ((w.alloc (.cells #[.int .i64 P, .slice A us.length c] 41)).alloc (.cells #[.int .i64 0, .slice none 0 0] 41)).heap[w.heap.size]? = some (.cells #[.int .i64 P, .slice A us.length c] 41 (0, 0)) from by
    rw [((FB.refl (w.alloc (.cells #[.int .i64 P, .slice A us.length c] 41))).alloc _).block _ (by simp)]; exact heap_alloc_new _ _)
  have HB2 := Lib.hid (show ((w.alloc (.cells #[.int .i64 P, .slice A us.length c] 41)).alloc (.cells #[.int .i64 0, .slice none 0 0] 41)).heap[w.heap.size + 1]? = some (.cells #[.int .i64 0, .slice none 0 0] 41 (0, 0)) from by
    have := heap_alloc_new (w.alloc (.cells #[.int .i64 P, .slice A us.length c] 41)) (.cells #[.int .i64 0, .slice none 0 0] 41)
    simpa using this)
  clear hr
  unfold spGive
  by_cases hok : spOk P us = true
  · have hch : spChk P us = 0 := by unfold spChk; rw [if_pos hok]
    rw [hch] at HCK
    have hP := (spOk_iff.1 hok).2.2.1
    have HOK := Lib.hid hok
    clear hch hok
    by_cases h1 : 2 ≤ k ∧ k < P
    · obtain ⟨kn, rfl⟩ : ∃ kn : Nat, k = (kn : Int) := ⟨k.toNat, by omega⟩
      have hkn : kn < us.length := by omega
      have hkx : (kn : Int) < (us.length : Int) := by omega
      have hkP : (kn : Int) < P := h1.2
      rw [if_pos ⟨HOK.out, h1⟩, Int.toNat_natCast, getD_at hkn]
      have hch0 : ¬ (kn : Int) < 2 := by omega
      obtain ⟨b, o, rfl, hcell0⟩ := RdV.bcell HR.out hkn
      generalize hU : us[kn] = u at *
      clear hU hP h1
      cases u
      · rw [if_neg (by simp)]
        go_enter Try.func29, Try.ntmps29
        go_wp2_with fail
        refine HCK.out.mono ?_
        rintro e w1 ⟨rfl, hb⟩
        have HF1 := Lib.hid (HF.out.trans hb)
        have hrow1 := (hb.block _ (Array.getElem?_eq_some_iff.1 HB1.out).1).trans HB1.out
        have hrow2 := ((hb.block _ (Array.getElem?_eq_some_iff.1 HB2.out).1).trans HB2.out)
        obtain ⟨q0, q1⟩ := row2 hrow1
        have hcell := HF1.out.cell hcell0
        have hst := sp_store (.int .i64 0) (.slice none 0 0) hrow2 (by simp [Value.oneCell'])
        have HROW := Lib.hid (setRow_heap w1 (w.heap.size + 1) _ #[.int .i64 0, .slice none 0 0] _ _ hrow2)
        have HEND := Lib.hid (HF1.out.setRow (g := w.heap.size + 1) (by omega) #[.int .i64 0, .slice none 0 0])
        clear hb hrow1 hcell0 hrow2
        go_wp2_with (refine wpList_store_by rfl _ _ _ rfl _ hst ?_)
        try simp only [Exit.inBlock, Exit.then]
        refine bodyPost_ret (sp_ret rfl _ (w.heap.size + 1) rfl _ HROW.out) rfl ?_
        exact SpRF.none 6 HEND.out
      · rw [if_pos rfl]
        go_enter Try.func29, Try.ntmps29
        go_wp2_with fail
        refine HCK.out.mono ?_
        rintro e w1 ⟨rfl, hb⟩
        have HF1 := Lib.hid (HF.out.trans hb)
        have hrow1 := (hb.block _ (Array.getElem?_eq_some_iff.1 HB1.out).1).trans HB1.out
        have HRW2 := Lib.hid ((hb.block _ (Array.getElem?_eq_some_iff.1 HB2.out).1).trans HB2.out)
        obtain ⟨q0, q1⟩ := row2 hrow1
        have hcell := HF1.out.cell hcell0
        clear hb hrow1 hcell0
        go_wp2_with fail
        refine (sp_with P us _ c kn false _ (HF1.out.rdV HR.out) hl hkn).mono ?_
        rintro e w2 ⟨A2, c2, rfl, ho, hb⟩
        have hrow2 := (hb.block _ (Array.getElem?_eq_some_iff.1 HRW2.out).1).trans HRW2.out
        have hst := sp_store (.int .i64 P) (.slice A2 us.length c2) hrow2 (by simp [Value.oneCell'])
        have HROW := Lib.hid (setRow_heap w2 (w.heap.size + 1) _ #[.int .i64 P, .slice A2 us.length c2] _ _ hrow2)
        have HEND := Lib.hid ((HF1.out.trans hb).setRow (g := w.heap.size + 1) (by omega) #[.int .i64 P, .slice A2 us.length c2])
        have HO := Lib.hid (OwnV.info ((TS.tb (F := [w.heap.size + 1]) (TB.setRow (w.heap.size + 1) w2 #[.int .i64 P, .slice A2 us.length c2]) (by simp)).ownV ho (fun b hb' hm => by
          have h1 := (OwnV.base ho b hb').1
          have h2 := (Array.getElem?_eq_some_iff.1 HRW2.out).1
          simp at hm; omega)))
        clear hb ho hrow2 q0 q1 hcell
        go_wp2_with (refine wpList_store_by rfl _ _ _ rfl _ hst ?_)
        try simp only [Exit.inBlock, Exit.then]
        refine bodyPost_ret (sp_ret rfl _ (w.heap.size + 1) rfl _ HROW.out) rfl ?_
        exact ⟨A2, c2, by simp, HO.out.2.2.1, by have := HO.out.1; simpa using this, HO.out.2.1, HEND.out, fun ad ha => ⟨Nat.le_trans HF1.out.le (HO.out.2.2.2.2 ad ha).1, (HO.out.2.2.2.2 ad ha).2⟩⟩
    · rw [if_neg (fun h => h1 h.2)]
      have hcs : k < 2 ∨ (¬ k < 2 ∧ P ≤ k) := by omega
      clear h1 hP
      rcases hcs with hcs | ⟨hcs, hcs2⟩
      all_goals
        go_enter Try.func29, Try.ntmps29
        go_wp2_with fail
        refine HCK.out.mono ?_
        rintro e w1 ⟨rfl, hb⟩
        have HF1 := Lib.hid (HF.out.trans hb)
        have hrow1 := (hb.block _ (Array.getElem?_eq_some_iff.1 HB1.out).1).trans HB1.out
        have hrow2 := ((hb.block _ (Array.getElem?_eq_some_iff.1 HB2.out).1).trans HB2.out)
        obtain ⟨q0, q1⟩ := row2 hrow1
        have hst := sp_store (.int .i64 0) (.slice none 0 0) hrow2 (by simp [Value.oneCell'])
        have HROW := Lib.hid (setRow_heap w1 (w.heap.size + 1) _ #[.int .i64 0, .slice none 0 0] _ _ hrow2)
        have HEND := Lib.hid (HF1.out.setRow (g := w.heap.size + 1) (by omega) #[.int .i64 0, .slice none 0 0])
        clear hb hrow1 hrow2
        go_wp2_with (refine wpList_store_by rfl _ _ _ rfl _ hst ?_)
        try simp only [Exit.inBlock, Exit.then]
        refine bodyPost_ret (sp_ret rfl _ (w.heap.size + 1) rfl _ HROW.out) rfl ?_
        exact SpRF.none 2 HEND.out
  · rw [if_neg (fun h => hok h.1)]
    have hch : spChk P us = 2 := by unfold spChk; rw [if_neg hok]
    rw [hch] at HCK
    clear hch hok
    go_enter Try.func29, Try.ntmps29
    go_wp2_with fail
    refine HCK.out.mono ?_
    rintro e w1 ⟨rfl, hb⟩
    have HF1 := Lib.hid (HF.out.trans hb)
    have hrow2 := ((hb.block _ (Array.getElem?_eq_some_iff.1 HB2.out).1).trans HB2.out)
    have hst := sp_store (.int .i64 0) (.slice none 0 0) hrow2 (by simp [Value.oneCell'])
    have HROW := Lib.hid (setRow_heap w1 (w.heap.size + 1) _ #[.int .i64 0, .slice none 0 0] _ _ hrow2)
    have HEND := Lib.hid (HF1.out.setRow (g := w.heap.size + 1) (by omega) #[.int .i64 0, .slice none 0 0])
    clear hb hrow2
    go_wp2_with (refine wpList_store_by rfl _ _ _ rfl _ hst ?_)
    try simp only [Exit.inBlock, Exit.then]
    refine bodyPost_ret (sp_ret rfl _ (w.heap.size + 1) rfl _ HROW.out) rfl ?_
    exact SpRF.none 2 HEND.out
theorem sp_Give (P : Int) (us : List Bool) (A : Option Addr) (c : Nat) (k : Int) (w : World) (hr : RdV w A (us.map .bool)) (hl : us.length ≤ 1000000000) (hc : us.length ≤ c) (hm : c ≤ maxLen) :
    Calls Try.prog 29 #[.agg #[.int .i64 P, .slice A us.length c], .int .i64 k] w fun e w' => SpR (spGive P us k) w e w' :=
  (sp_GiveF P us A c k w hr hl hc hm).mono fun e w' h => h.weak
end Go.Proofs.Ytjhgnohofcahbaa
