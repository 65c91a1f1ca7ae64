/- space: the walks through Collect, Free, Count, with, New, Use, Give. -/
import Derived.Test.YtjhgnohofcahbaaSpI
set_option linter.unusedVariables false
set_option linter.unusedSimpArgs false
namespace Go.Proofs.Ytjhgnohofcahbaa
open Go.ChangeShapes Go.WideShapes Go.ChangeAt Go.RowKit
set_option maxRecDepth 100000

theorem OwnV.head0 {e : TypeId} {w : World} {base n : Nat} {A : Option Addr} {c : Nat} {vs : List Value} (h : OwnV e w base (.slice A n c) vs) (hn : 0 < vs.length) : ∃ g, A = some ⟨g, 0, none⟩ ∧ base ≤ g ∧ g < w.heap.size := by
  rcases h.2 with ⟨h', h0⟩ | ⟨g, cap, cur, h', hb, hg, _⟩
  · omega
  · simp only [Value.slice.injEq] at h'
    exact ⟨g, h'.1, hb, (Array.getElem?_eq_some_iff.1 hg).1⟩
theorem OwnV.cellset {e : TypeId} {w : World} {base n g c : Nat} {vs : List Value} (h : OwnV e w base (.slice (some ⟨g, 0, none⟩) n c) vs) {j : Nat} (hj : j < vs.length) :
    w.cell? ⟨g, j, none⟩ = some vs[j] ∧ w.frozen? ⟨g, j, none⟩ = false ∧ ∀ u, OwnV e (w.setCell ⟨g, j, none⟩ u) base (.slice (some ⟨g, 0, none⟩) n c) (vs.set j u) := by
  obtain ⟨_, _, _, hn, _⟩ := OwnV.info h
  subst hn
  have hr := h
  unfold OwnV at hr
  refine ⟨?_, World.ownsRow.frozenAt hr j, fun u => ?_⟩
  · rw [World.ownsRow.cellAt hr j (by omega), List.getElem?_eq_getElem hj]
  · have := (World.ownsRow.stored hr j u).1
    unfold OwnV
    rw [List.length_set]
    exact this
set_option maxHeartbeats 400000 in
theorem sl_Collect (P : Int) (A : Option Addr) (c : Nat) (us : List Bool) (hl : us.length ≤ 1000000000) (w : World) (hr : RdV w A (us.map .bool)) (Bs : Nat) (hBs : w.cell? ⟨Bs, 1, none⟩ = some (.slice A us.length c)) :
    Calls Try.prog 61 #[.func (.func 85) #[] #[.pointer (some ⟨Bs, 0, none⟩)]] w fun e W' => ∃ A' c', e = .returned (.slice A' (frees us us.length).length c') ∧ RdV W' A' (ivs (frees us us.length)) ∧ FB w W' := by
  have HA := Lib.hid (sl_AppendSeq P A c us hl w hr Bs hBs)
  clear hr hBs
  go_enter Try.func61, Try.ntmps61
  go_wp2_with fail
  refine HA.out.mono ?_
  rintro e w1 ⟨v, rfl, hrow, hf⟩
  have ho : OwnV 3 w1 w.heap.size v (ivs (frees us us.length)) := by unfold OwnV; rw [ivs_len]; exact hrow
  obtain ⟨A', c', rfl, -, -, h3, -⟩ := OwnV.form ho
  have H3 := Lib.hid h3
  have HF := Lib.hid hf
  clear hrow ho h3 hf
  rw [ivs_len]
  go_wp2
  go_ret
  exact ⟨A', c', rfl, H3.out, HF.out⟩
/-- What Free returns. -/
def spFree (P : Int) (us : List Bool) : List Nat := if spOk P us then frees us us.length else []
set_option maxHeartbeats 1000000 in
theorem sp_Free (P : Int) (us : List Bool) (A : Option Addr) (c : Nat) (w : World) (hr : RdV w A (us.map .bool)) (hl : us.length ≤ 1000000000) :
    Calls Try.prog 31 #[.agg #[.int .i64 P, .slice A us.length c]] w fun e w' => ∃ A' c', e = .returned (.slice A' (spFree P us).length c') ∧ RdV w' A' (ivs (spFree P us)) ∧ FB w w' := by
  have HF := Lib.hid ((FB.refl w).alloc (.cells #[.int .i64 P, .slice A us.length c] 41))
  have HR := Lib.hid hr
  have HCK := Lib.hid (sp_Check P us A c (w.alloc (.cells #[.int .i64 P, .slice A us.length c] 41)) (HF.out.rdV hr) (by omega))
  clear hr
  unfold spFree
  cases hok : spOk P us with
  | false =>
    rw [if_neg (by simp)]
    have hch : spChk P us = 2 := by unfold spChk; rw [hok]; rfl
    rw [hch] at HCK
    clear hok hch
    go_enter Try.func31, Try.ntmps31
    go_wp2_with fail
    refine HCK.out.mono ?_
    rintro e w1 ⟨rfl, hb⟩
    have HF1 := Lib.hid (HF.out.trans hb)
    clear hb
    go_wp2
    go_ret
    exact ⟨none, 0, rfl, RdV.nil _ _, HF1.out⟩
  | true =>
    rw [if_pos rfl]
    have hch : spChk P us = 0 := by unfold spChk; rw [hok]; rfl
    rw [hch] at HCK
    clear hok hch
    go_enter Try.func31, Try.ntmps31
    go_wp2_with fail
    refine HCK.out.mono ?_
    rintro e w1 ⟨rfl, hb⟩
    have HF1 := Lib.hid (HF.out.trans hb)
    obtain ⟨q0, q1⟩ := row2 (box_row hb)
    clear hb
    go_wp2_with fail
    refine (sp_free P A us.length c _).mono ?_
    rintro e w2 ⟨rfl, rfl⟩
    have HF2 := Lib.hid (HF1.out.alloc (.cells #[.int .i64 P, .slice A us.length c] 41))
    have HQ := Lib.hid (row2 (heap_alloc_new w1 (.cells #[.int .i64 P, .slice A us.length c] 41))).2
    clear q0 q1
    go_wp2_with fail
    refine (sl_Collect P A c us hl _ (HF2.out.rdV HR.out) _ HQ.out).mono ?_
    rintro e w3 ⟨A3, c3, rfl, hr3, hb⟩
    have HR3 := Lib.hid hr3
    have HF3 := Lib.hid (HF2.out.trans hb)
    clear hr3 hb
    go_wp2
    go_ret
    exact ⟨A3, c3, rfl, HR3.out, HF3.out⟩
set_option maxHeartbeats 400000 in
theorem sp_Count (P : Int) (us : List Bool) (A : Option Addr) (c : Nat) (w : World) (hr : RdV w A (us.map .bool)) (hl : us.length ≤ 1000000000) :
    Calls Try.prog 30 #[.agg #[.int .i64 P, .slice A us.length c]] w fun e w' => e = .returned (.int .i64 ((spFree P us).length : Int)) ∧ FB w w' := by
  have HF := Lib.hid ((FB.refl w).alloc (.cells #[.int .i64 P, .slice A us.length c] 41))
  have HC := Lib.hid (sp_Free P us A c (w.alloc (.cells #[.int .i64 P, .slice A us.length c] 41)) (HF.out.rdV hr) hl)
  clear hr
  go_enter Try.func30, Try.ntmps30
  go_wp2_with fail
  refine HC.out.mono ?_
  rintro e w1 ⟨A1, c1, rfl, -, hb⟩
  have HF1 := Lib.hid (HF.out.trans hb)
  clear hb
  go_wp2
  go_ret
  exact ⟨rfl, HF1.out⟩
theorem results_cell1' {P : Program} {fn : Func} {a : Tmp} {ty : TypeId} (h : fn.results = #[.cell a ty]) (tmps : Array Value) (g : Nat) (hg : tmps.getD a undef = .pointer (some ⟨g, 0, none⟩)) (w : World) (v : Value)
    (hl : (loadVar ty ⟨g, 0, none⟩).run P w = .ok v w) : (results fn tmps).run P w = .ok v w := by
  have hg' : tmps[a]?.getD undef = .pointer (some ⟨g, 0, none⟩) := by simpa using hg
  simp [results, h, hg', asAddr, hl]
set_option maxHeartbeats 1000000 in
theorem sp_with (P : Int) (us : List Bool) (A : Option Addr) (c : Nat) (k : Nat) (b : Bool) (w : World) (hr : RdV w A (us.map .bool)) (hl : us.length ≤ 1000000000) (hk : k < us.length) :
    Calls Try.prog 60 #[.agg #[.int .i64 P, .slice A us.length c], .int .i64 (k : Int), .bool b] w fun e w' => ∃ A' c', e = .returned (.agg #[.int .i64 P, .slice A' us.length c']) ∧ OwnV 4 w' w.heap.size (.slice A' us.length c') ((us.set k b).map .bool) ∧ FB w w' := by
  have HF := Lib.hid (((FB.refl w).alloc (.cells #[.int .i64 P, .slice A us.length c] 41)).alloc (.cells #[.int .i64 0, .slice none 0 0] 41))
  have HR := Lib.hid hr
  have hkx : (k : Int) < (us.length : Int) := by omega
  clear hr
  go_enter Try.func60, Try.ntmps60
  go_wp2_with fail
  have HB1 := Lib.hid (show ((w.alloc (.cells #[.int .i64 P, .slice A us.length c] 41)).alloc (.cells #[.int .i64 0, .slice none 0 0] 41)).heap[w.heap.size]? = some (.cells #[.int .i64 P, .slice A us.length c] 41 (0, 0)) from by
    rw [((FB.refl (w.alloc (.cells #[.int .i64 P, .slice A us.length c] 41))).alloc _).block _ (by simp)]; exact heap_alloc_new _ _)
  have HB2 := Lib.hid (show ((w.alloc (.cells #[.int .i64 P, .slice A us.length c] 41)).alloc (.cells #[.int .i64 0, .slice none 0 0] 41)).heap[w.heap.size + 1]? = some (.cells #[.int .i64 0, .slice none 0 0] 41 (0, 0)) from by
    have := heap_alloc_new (w.alloc (.cells #[.int .i64 P, .slice A us.length c] 41)) (.cells #[.int .i64 0, .slice none 0 0] 41)
    simpa using this)
  have HSZ := Lib.hid (show ((w.alloc (.cells #[.int .i64 P, .slice A us.length c] 41)).alloc (.cells #[.int .i64 0, .slice none 0 0] 41)).heap.size = w.heap.size + 2 from by simp)
  generalize (w.alloc (.cells #[.int .i64 P, .slice A us.length c] 41)).alloc (.cells #[.int .i64 0, .slice none 0 0] 41) = w0 at *
  refine (sl_CloneB us A us.length c w0 rfl hl (HF.out.rdV HR.out)).mono ?_
  rintro e w1 ⟨A1, c1, rfl, ho, hb⟩
  obtain ⟨g, rfl, hg1, hg2⟩ := OwnV.head0 ho (by rw [List.length_map]; omega)
  rw [HSZ.out] at hg1
  have hrow1 := (hb.block _ (Array.getElem?_eq_some_iff.1 HB1.out).1).trans HB1.out
  have hrow2 := (hb.block _ (Array.getElem?_eq_some_iff.1 HB2.out).1).trans HB2.out
  obtain ⟨q0, q1⟩ := row2 hrow1
  have f1 := frozen_row _ hrow1 1
  have hs1 : TS [w.heap.size] w1 (w1.setCell ⟨w.heap.size, 1, none⟩ (.slice (some ⟨g, 0, none⟩) us.length c1)) := TS.tb (TB.set w1 1 _) (by simp)
  have hrowA := heap_setCell_same w1 w.heap.size 1 _ _ (.slice (some ⟨g, 0, none⟩) us.length c1) hrow1
  obtain ⟨r0, r1⟩ := row2 hrowA
  have ho1 := hs1.ownV ho (fun b hb hm => by cases hb; simp at hm; omega)
  obtain ⟨s0, sf, sset⟩ := OwnV.cellset ho1 (j := k) (by rw [List.length_map]; exact hk)
  have ho2 := sset (.bool b)
  have hs2 : TS [g] (w1.setCell ⟨w.heap.size, 1, none⟩ (.slice (some ⟨g, 0, none⟩) us.length c1)) ((w1.setCell ⟨w.heap.size, 1, none⟩ (.slice (some ⟨g, 0, none⟩) us.length c1)).setCell ⟨g, k, none⟩ (.bool b)) := TS.tb (TB.set _ k _) (by simp)
  have hrowB := (hs2.block w.heap.size (Array.getElem?_eq_some_iff.1 hrowA).1 (by simp; omega)).trans hrowA
  obtain ⟨t0, t1⟩ := row2 hrowB
  have hrowC := (hs2.block (w.heap.size + 1) (by simpa using (Array.getElem?_eq_some_iff.1 hrow2).1) (by simp; omega)).trans ((hs1.block (w.heap.size + 1) (Array.getElem?_eq_some_iff.1 hrow2).1 (by simp)).trans hrow2)
  have hst := sp_store (.int .i64 P) (.slice (some ⟨g, 0, none⟩) us.length c1) hrowC (by simp [Value.oneCell'])
  have HF3 := Lib.hid (show FB w ((w1.setCell ⟨w.heap.size, 1, none⟩ (.slice (some ⟨g, 0, none⟩) us.length c1)).setCell ⟨g, k, none⟩ (.bool b)) from ((HF.out.trans hb).set (p := ⟨w.heap.size, 1, none⟩) (Nat.le_refl _) _).set (p := ⟨g, k, none⟩) (by simp; omega) _)
  generalize hW3 : (w1.setCell ⟨w.heap.size, 1, none⟩ (.slice (some ⟨g, 0, none⟩) us.length c1)).setCell ⟨g, k, none⟩ (.bool b) = w3 at *
  have HROW := Lib.hid (setRow_heap w3 (w.heap.size + 1) _ #[.int .i64 P, .slice (some ⟨g, 0, none⟩) us.length c1] _ _ hrowC)
  have HO := Lib.hid (show OwnV 4 (w3.setRow (w.heap.size + 1) #[.int .i64 P, .slice (some ⟨g, 0, none⟩) us.length c1]) w.heap.size (.slice (some ⟨g, 0, none⟩) us.length c1) ((us.set k b).map .bool) from by
    have := (TS.tb (F := [w.heap.size + 1]) (TB.setRow (w.heap.size + 1) w3 #[.int .i64 P, .slice (some ⟨g, 0, none⟩) us.length c1]) (by simp)).ownV ho2 (fun b hb hm => by cases hb; simp at hm; omega)
    rw [List.map_set]
    exact this.lower (by rw [HSZ.out]; omega))
  have HEND := Lib.hid (HF3.out.setRow (g := w.heap.size + 1) (by omega) #[.int .i64 P, .slice (some ⟨g, 0, none⟩) us.length c1])
  clear hrow1 hrow2 hs1 hrowA ho ho1 sset ho2 hs2 hrowB hrowC hb hg1 hg2
  go_wp2_with (refine wpList_store_by rfl _ _ _ rfl _ hst ?_)
  try simp only [Exit.inBlock, Exit.then]
  exact bodyPost_ret (v := .agg #[.int .i64 P, .slice (some ⟨g, 0, none⟩) us.length c1]) (results_cell1' Try.results60 _ (w.heap.size + 1) rfl _ _ (sp_load HROW.out)) rfl ⟨_, _, rfl, HO.out, HEND.out⟩
end Go.Proofs.Ytjhgnohofcahbaa
