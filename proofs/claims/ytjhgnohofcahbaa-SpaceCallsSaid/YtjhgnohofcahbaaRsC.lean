/- the reference of layer 8: Take. -/
import Derived.Test.YtjhgnohofcahbaaRsB
set_option linter.unusedVariables false
set_option linter.unusedSimpArgs false
namespace Go.Proofs.Ytjhgnohofcahbaa
open Go.ChangeShapes Go.WideShapes Go.ChangeAt Go.RowKit
attribute [local go_sem] nb_nonneg nb_lt8 nb_lt64
set_option maxRecDepth 100000

theorem results_tct {P : Program} {fn : Func} {s a u : Tmp} {ty : TypeId} (h : fn.results = #[.tmp s, .cell a ty, .tmp u]) (tmps : Array Value) (g : Nat) (hg : tmps.getD a undef = .pointer (some ⟨g, 0, none⟩)) (w : World) (v : Value)
    (hl : (loadVar ty ⟨g, 0, none⟩).run P w = .ok v w) : (results fn tmps).run P w = .ok (.tuple #[tmps.getD s undef, v, tmps.getD u undef]) w := by
  have hg' : tmps[a]?.getD undef = .pointer (some ⟨g, 0, none⟩) := by simpa using hg
  simp [results, h, hg', asAddr, hl]
theorem rt_ret {fn : Func} {s a u : Tmp} (h : fn.results = #[.tmp s, .cell a 41, .tmp u]) (tmps : Array Value) (g : Nat) (hg : tmps.getD a undef = .pointer (some ⟨g, 0, none⟩)) (w : World) {x y : Value}
    (hw : w.heap[g]? = some (.cells #[x, y] 41 (0, 0))) : (results fn tmps).run Try.prog w = .ok (.tuple #[tmps.getD s undef, .agg #[x, y], tmps.getD u undef]) w :=
  results_tct h tmps g hg w _ (sp_load hw)
set_option maxHeartbeats 2000000 in
theorem rs_Take (P : Int) (us : List Bool) (A : Option Addr) (c : Nat) (w : World) (hr : RdV w A (us.map .bool)) (hl : us.length ≤ 1000000000) :
    Calls Try.prog 36 #[.agg #[.int .i64 P, .slice A us.length c]] w fun e w' => SpT (spTake P us) w e w' := by
  have HF := Lib.hid (((FB.refl w).alloc (.cells #[.int .i64 P, .slice A us.length c] 41)).alloc (.cells #[.int .i64 0, .slice none 0 0] 41))
  have HR := Lib.hid hr
  have HL := Lib.hid hl
  have HCK := Lib.hid (rs_Check P us A c ((w.alloc (.cells #[.int .i64 P, .slice A us.length c] 41)).alloc (.cells #[.int .i64 0, .slice none 0 0] 41)) (HF.out.rdV hr) (by omega))
  have HB1 := Lib.hid (show ((w.alloc (.cells #[.int .i64 P, .slice A us.length c] 41)).alloc (.cells #[.int .i64 0, .slice none 0 0] 41)).heap[w.heap.size]? = some (.cells #[.int .i64 P, .slice A us.length c] 41 (0, 0)) from by
    rw [((FB.refl (w.alloc (.cells #[.int .i64 P, .slice A us.length c] 41))).alloc _).block _ (by simp)]; exact heap_alloc_new _ _)
  have HB2 := Lib.hid (show ((w.alloc (.cells #[.int .i64 P, .slice A us.length c] 41)).alloc (.cells #[.int .i64 0, .slice none 0 0] 41)).heap[w.heap.size + 1]? = some (.cells #[.int .i64 0, .slice none 0 0] 41 (0, 0)) from by
    have := heap_alloc_new (w.alloc (.cells #[.int .i64 P, .slice A us.length c] 41)) (.cells #[.int .i64 0, .slice none 0 0] 41)
    simpa using this)
  clear hr hl
  obtain ⟨R, hR⟩ : ∃ R, R = spTake P us := ⟨_, rfl⟩
  rw [← hR]
  unfold spTake at hR
  by_cases hok : spOk P us = true
  · have hch : spChk P us = 0 := by unfold spChk; rw [if_pos hok]
    rw [hch] at HCK
    have HP := Lib.hid (show P = (us.length : Int) from (spOk_iff.1 hok).2.2.1.symm)
    rw [if_pos hok] at hR
    have HRR := Lib.hid hR
    clear hch hok hR
    go_enter Try.func36, Try.ntmps36
    go_wp2_with fail
    refine HCK.out.mono ?_
    rintro e w1 ⟨rfl, hb⟩
    have HF1 := Lib.hid (HF.out.trans hb)
    have HR1 := Lib.hid ((hb.block _ (Array.getElem?_eq_some_iff.1 HB1.out).1).trans HB1.out)
    have HR2 := Lib.hid ((hb.block _ (Array.getElem?_eq_some_iff.1 HB2.out).1).trans HB2.out)
    clear hb
    go_wp2_with fail
    go_loopw [5] (fun c5 wl => ∃ i : Nat, i ≤ us.length ∧ c5 = .int .i64 i ∧ Hid (frees us i = []) ∧ Hid (FB w1 wl)) (fun c5 wl => us.length - (intOf c5).toNat)
    case atStart => exact ⟨0, by omega, rfl, rfl, FB.refl _⟩
    case round =>
      obtain ⟨i, hi, rfl, HFR, HW⟩ := hrel
      obtain ⟨q0, q1⟩ := row2 ((HW.out.block _ (Array.getElem?_eq_some_iff.1 HR1.out).1).trans HR1.out)
      by_cases hlt : i < us.length
      · have hil : (i : Int) < P := by rw [HP.out]; omega
        have hil2 : (i : Int) < (us.length : Int) := by omega
        obtain ⟨b, o, rfl, hcell⟩ := RdV.bcell ((HF1.out.trans HW.out).rdV HR.out) hlt
        rw [← getD_at hlt] at hcell
        obtain ⟨u, hu⟩ : ∃ u, u = us.getD i false := ⟨_, rfl⟩
        rw [← hu] at hcell
        have HU := Lib.hid hu
        clear hu
        have hwi : IntKind.i64.wrap ((i : Int) + 1) = (i : Int) + 1 := by rw [IntKind.wrap_i64]; have := HL.out; omega
        cases u
        · obtain ⟨hh, hk⟩ := frees_head (us := us) (k := i) (m := us.length) (by
            have := frees_pre us (show i + 1 ≤ us.length by omega)
            rw [frees_free HU.out.symm, HFR.out] at this
            exact this)
          have HRQ := Lib.hid (show R = ((i : Int), (P, us.set i true), 0) from by rw [HRR.out, hh])
          have HC := Lib.hid (rs_with P us _ c i true wr ((HF1.out.trans HW.out).rdV HR.out) HL.out hlt)
          have HR2 := Lib.hid ((HW.out.block _ (Array.getElem?_eq_some_iff.1 HR2.out).1).trans HR2.out)
          clear hh hk
          go_wp2_with fail
          refine HC.out.mono ?_
          rintro e w2 ⟨A2, c2, rfl, ho, hb⟩
          have hrow2 := (hb.block _ (Array.getElem?_eq_some_iff.1 HR2.out).1).trans HR2.out
          have hst := sp_store (.int .i64 P) (.slice A2 us.length c2) hrow2 (by simp [Value.oneCell'])
          have HROW := Lib.hid (setRow_heap w2 (w.heap.size + 1) _ #[.int .i64 P, .slice A2 us.length c2] _ _ hrow2)
          have HEND := Lib.hid (((HF1.out.trans HW.out).trans hb).setRow (g := w.heap.size + 1) (by omega) #[.int .i64 P, .slice A2 us.length c2])
          have HO := Lib.hid (OwnV.info ((TS.tb (F := [w.heap.size + 1]) (TB.setRow (w.heap.size + 1) w2 #[.int .i64 P, .slice A2 us.length c2]) (by simp)).ownV ho (fun b hb' hm => by
            have h1 := (OwnV.base ho b hb').1
            have h2 := (Array.getElem?_eq_some_iff.1 HR2.out).1
            simp at hm; omega)))
          clear hb ho hrow2 q0 q1 hcell
          go_wp2_with (refine wpList_store_by rfl _ _ _ rfl _ hst ?_)
          try simp only [Exit.inBlock, Exit.then]
          refine bodyPost_ret (rt_ret rfl _ (w.heap.size + 1) rfl _ HROW.out) rfl ?_
          rw [HRQ.out]
          exact ⟨A2, c2, by simp, HO.out.2.2.1, by have := HO.out.1; simpa using this, HO.out.2.1, HEND.out⟩
        · have HF2 := Lib.hid (show frees us (i + 1) = [] from by rw [frees_used HU.out.symm, HFR.out])
          go_wp2_with fail
          go_roundw
          case rel => exact ⟨i + 1, by omega, by go_num, HF2.out, HW.out⟩
          case measure => simp [intOf]; omega
      · obtain rfl : i = us.length := by omega
        have hil : ¬ (us.length : Int) < P := by rw [HP.out]; omega
        have HRQ := Lib.hid (show R = (0, (0, []), 9) from by rw [HRR.out, HFR.out])
        have hrow2 := ((HW.out.block _ (Array.getElem?_eq_some_iff.1 HR2.out).1).trans HR2.out)
        have hst := sp_store (.int .i64 0) (.slice none 0 0) hrow2 (by simp [Value.oneCell'])
        have HROW := Lib.hid (setRow_heap wr (w.heap.size + 1) _ #[.int .i64 0, .slice none 0 0] _ _ hrow2)
        have HEND := Lib.hid ((HF1.out.trans HW.out).setRow (g := w.heap.size + 1) (by omega) #[.int .i64 0, .slice none 0 0])
        clear hrow2
        go_wp2_with (refine wpList_store_by rfl _ _ _ rfl _ hst ?_)
        try simp only [Exit.inBlock, Exit.then]
        refine bodyPost_ret (rt_ret rfl _ (w.heap.size + 1) rfl _ HROW.out) rfl ?_
        rw [HRQ.out]
        exact SpT.none 9 HEND.out
  · rw [if_neg hok] at hR
    subst hR
    have hch : spChk P us = 2 := by unfold spChk; rw [if_neg hok]
    rw [hch] at HCK
    clear hch hok
    go_enter Try.func36, Try.ntmps36
    go_wp2_with fail
    refine HCK.out.mono ?_
    rintro e w1 ⟨rfl, hb⟩
    have HF1 := Lib.hid (HF.out.trans hb)
    have hrow2 := ((hb.block _ (Array.getElem?_eq_some_iff.1 HB2.out).1).trans HB2.out)
    have hst := sp_store (.int .i64 0) (.slice none 0 0) hrow2 (by simp [Value.oneCell'])
    have HROW := Lib.hid (setRow_heap w1 (w.heap.size + 1) _ #[.int .i64 0, .slice none 0 0] _ _ hrow2)
    have HEND := Lib.hid (HF1.out.setRow (g := w.heap.size + 1) (by omega) #[.int .i64 0, .slice none 0 0])
    clear hb hrow2
    go_wp2_with (refine wpList_store_by rfl _ _ _ rfl _ hst ?_)
    try simp only [Exit.inBlock, Exit.then]
    refine bodyPost_ret (rt_ret rfl _ (w.heap.size + 1) rfl _ HROW.out) rfl ?_
    exact SpT.none 2 HEND.out
end Go.Proofs.Ytjhgnohofcahbaa
