/- the reference of layer 8: Check, with, Use, Give, Take. -/
import Derived.Test.YtjhgnohofcahbaaSpV
set_option linter.unusedVariables false
set_option linter.unusedSimpArgs false
namespace Go.Proofs.Ytjhgnohofcahbaa
open Go.ChangeShapes Go.WideShapes Go.ChangeAt Go.RowKit
set_option maxRecDepth 100000

set_option maxHeartbeats 2000000 in
theorem rs_with (P : Int) (us : List Bool) (A : Option Addr) (c : Nat) (k : Nat) (b : Bool) (w : World) (hr : RdV w A (us.map .bool)) (hl : us.length ≤ 1000000000) (hk : k < us.length) :
    Calls Try.prog 64 #[.agg #[.int .i64 P, .slice A us.length c], .int .i64 (k : Int), .bool b] w fun e w' => ∃ A' c', e = .returned (.agg #[.int .i64 P, .slice A' us.length c']) ∧ OwnV 4 w' w.heap.size (.slice A' us.length c') ((us.set k b).map .bool) ∧ FB w w' := by
  have HF := Lib.hid (((FB.refl w).alloc (.cells #[.int .i64 P, .slice A us.length c] 41)).alloc (.cells #[.int .i64 0, .slice none 0 0] 41))
  have HR := Lib.hid hr
  have HL := Lib.hid hl
  have HK := Lib.hid hk
  have hkx : (k : Int) < (us.length : Int) := by omega
  clear hr hl hk
  go_enter Try.func64, Try.ntmps64
  go_wp2_with fail
  have HB1 := Lib.hid (show ((w.alloc (.cells #[.int .i64 P, .slice A us.length c] 41)).alloc (.cells #[.int .i64 0, .slice none 0 0] 41)).heap[w.heap.size]? = some (.cells #[.int .i64 P, .slice A us.length c] 41 (0, 0)) from by
    rw [((FB.refl (w.alloc (.cells #[.int .i64 P, .slice A us.length c] 41))).alloc _).block _ (by simp)]; exact heap_alloc_new _ _)
  have HB2 := Lib.hid (show ((w.alloc (.cells #[.int .i64 P, .slice A us.length c] 41)).alloc (.cells #[.int .i64 0, .slice none 0 0] 41)).heap[w.heap.size + 1]? = some (.cells #[.int .i64 0, .slice none 0 0] 41 (0, 0)) from by
    have := heap_alloc_new (w.alloc (.cells #[.int .i64 P, .slice A us.length c] 41)) (.cells #[.int .i64 0, .slice none 0 0] 41)
    simpa using this)
  have HSZ := Lib.hid (show ((w.alloc (.cells #[.int .i64 P, .slice A us.length c] 41)).alloc (.cells #[.int .i64 0, .slice none 0 0] 41)).heap.size = w.heap.size + 2 from by simp)
  obtain ⟨W0, hW0⟩ : ∃ W0 : World, W0 = (w.alloc (.cells #[.int .i64 P, .slice A us.length c] 41)).alloc (.cells #[.int .i64 0, .slice none 0 0] 41) := ⟨_, rfl⟩
  rw [← hW0] at HB1 HB2 HSZ HF ⊢
  clear hW0
  refine region_schB (E := Below (w.heap.size + 2)) ([]) ([(0, true), (1, true), (3, true), (4, true)]) (.two [(2, false)] (.two [(5, false), (6, true), (7, false), (8, false)] .leaf [(7, false), (5, false), (6, true), (8, false)] .leaf) [(7, false), (2, false), (5, false), (6, true), (8, false)] .leaf) ([]) (by kernel_rfl) (Below.refl _) (fun _ _ _ h k => Below.trans h k) (fun _ _ d _ _ h => by cases d <;> exact h) (by kernel_rfl) ?_
  intro ops hops0
  have hops := Lib.hid hops0
  clear hops0
  have HD : FB W0 W0.drew := (FB.refl _).drew
  generalize W0.drew = wF0 at *
  have HNF := Lib.hid (show w.heap.size + 2 ≤ wF0.heap.size from by have := HD.le; rw [← HSZ.out]; exact this)
  have HB1a := Lib.hid ((HD.block _ (Array.getElem?_eq_some_iff.1 HB1.out).1).trans HB1.out)
  have HB2a := Lib.hid ((HD.block _ (Array.getElem?_eq_some_iff.1 HB2.out).1).trans HB2.out)
  have HF1 := Lib.hid (HF.out.trans HD)
  have K := Lib.hid (row2 HB1a.out)
  clear HD HB1 HB2 HF
  refine sch_done ?_
  refine schB_pre ?_
  repeat (refine sch_take (o := ?_) (v := ?_) (a' := ?_) (at_of hops.out ?_) ?_ (fun W hW => ?_) ?_ ?_; rotate_left 3; (focus (simp only [List.getElem?_toArray, List.getElem?_cons_zero, List.getElem?_cons_succ]; rfl)); (focus (rw [hops.out]; rfl)); (focus (have u1 := bl_cell hW K.out.1 (by simp); have u2 := bl_cell hW K.out.2 (by simp); go_simp; with_reducible rfl)); (focus (simp only [Act.put, List.setIfInBounds_toArray, List.set_cons_zero, List.set_cons_succ]; rfl)))
  refine sch_done ?_
  clear K
  refine schB_two ?_ ?_
  · (refine sch_run (o := ?_) (v := ?_) (a' := ?_) (w' := ?_) (at_of hops.out ?_) ?_ ?_ ?_ ?_ ?_; rotate_left 4; (focus (simp only [List.getElem?_toArray, List.getElem?_cons_zero, List.getElem?_cons_succ]; rfl)); (focus (rw [hops.out]; rfl)); (focus (go_simp; constructor <;> with_reducible rfl)); (focus (exact Below.alloc (Below.refl _ _) HNF.out _)); (focus (simp only [Act.put, List.setIfInBounds_toArray, List.set_cons_zero, List.set_cons_succ]; rfl)))
    refine sch_done ?_
    refine schB_two ?_ ?_
    · skip
      (refine sch_append (o := ?_) (at_of hops.out ?_) ?_ (.tmp 10) (.tmp 12) 39 4 1 (.bool false) Try.underlying39 info_b rfl ?_ wF0.heap.size _ [] (OwnV.lit _ wF0 [] (by simp)) ?_ A us.length c (us.map .bool) (by simp) ?_ (((FB.refl wF0).alloc _).rdV (HF1.out.rdV HR.out)) (one_bools us) (by have := HL.out; simp [maxLen]; omega) (by have := HL.out; simp; omega) (by simp <;> omega) ?_; rotate_left 1; (focus (simp only [List.getElem?_toArray, List.getElem?_cons_zero, List.getElem?_cons_succ]; rfl)); (focus (rw [hops.out]; rfl)); (focus rfl); (focus rfl); (focus rfl))
      intro v' wA ho hgr hob
      rw [List.nil_append] at ho
      refine ⟨Below.grown (Below.refl _ _) hgr (by have := HNF.out; simp; omega) (fun k hk => by have := HNF.out; cases hk; simp at *; omega), ?_⟩
      intro a' ha'; simp only [Act.put, List.setIfInBounds_toArray, List.set_cons_zero, List.set_cons_succ] at ha'; subst ha'
      obtain ⟨A', c', rfl, -, -, -, -⟩ := OwnV.form ho
      rw [List.length_map] at ho hob ⊢
      obtain ⟨g, rfl, hg1, hg2⟩ := OwnV.head0 ho (by rw [List.length_map]; have := HK.out; omega)
      clear hg1 hg2
      have HOA := Lib.hid (ho)
      have HFA := Lib.hid ((FB.refl wF0).alloc (.cells #[] 4) |>.grown hgr (by simp [Value.ownBlock]))
      clear ho hgr hob
      repeat (refine sch_take (o := ?_) (v := ?_) (a' := ?_) (at_of hops.out ?_) ?_ (fun W hW => ?_) ?_ ?_; rotate_left 3; (focus (simp only [List.getElem?_toArray, List.getElem?_cons_zero, List.getElem?_cons_succ]; rfl)); (focus (rw [hops.out]; rfl)); (focus (go_simp; with_reducible rfl)); (focus (simp only [Act.put, List.setIfInBounds_toArray, List.set_cons_zero, List.set_cons_succ]; rfl)))
      (refine sch_run (o := ?_) (v := ?_) (a' := ?_) (w' := ?_) (at_of hops.out ?_) ?_ ?_ ?_ ?_ ?_; rotate_left 4; (focus (simp only [List.getElem?_toArray, List.getElem?_cons_zero, List.getElem?_cons_succ]; rfl)); (focus (rw [hops.out]; rfl)); (focus (go_simp; constructor <;> with_reducible rfl)); (focus (exact Below.alloc (Below.refl _ _) (Nat.le_trans HNF.out HFA.out.le) _)); (focus (simp only [Act.put, List.setIfInBounds_toArray, List.set_cons_zero, List.set_cons_succ]; rfl)))
      have HOB := Lib.hid ((HOA.out.alloc (.cells #[.int .i64 0, .slice none 0 0] 41)).lower (show w.heap.size + 2 ≤ wF0.heap.size from HNF.out))
      have HXB := Lib.hid (heap_alloc_new wA (.cells #[.int .i64 0, .slice none 0 0] 41))
      have HNX := Lib.hid (show ∀ k, (Value.slice (some ⟨g, 0, none⟩) us.length c').ownBlock = some k → k ≠ wA.heap.size from fun k hk => Nat.ne_of_lt (OwnV.base HOA.out k hk).2)
      have HGX := Lib.hid (show w.heap.size + 2 ≤ wA.heap.size from Nat.le_trans HNF.out HFA.out.le)
      have HFB := Lib.hid (HFA.out.alloc (.cells #[.int .i64 0, .slice none 0 0] 41))
      clear HOA HFA
      generalize wA.alloc _ = wB at *
      generalize wA.heap.size = gX at *
      have hg1 := (OwnV.base HOB.out g rfl).1
      have HNG := Lib.hid (show g ≠ gX from HNX.out g rfl)
      have HG2 := Lib.hid (show w.heap.size + 2 ≤ g from hg1)
      have hst0 := sp_store (.int .i64 P) (.slice (some ⟨g, 0, none⟩) us.length c') HXB.out (by simp [Value.oneCell'])
      (refine sch_storeR (o := ?_) (at_of hops.out ?_) ?_ 41 (.tmp 7) (.tmp 14) ?_ ?_ (.pointer (some ⟨gX, 0, none⟩)) (.agg #[.int .i64 P, .slice (some ⟨g, 0, none⟩) us.length c']) ?_ ?_ hst0 (below_setRow (Below.refl _ _) HGX.out _) ?_; rotate_left 1; (focus (simp only [List.getElem?_toArray, List.getElem?_cons_zero, List.getElem?_cons_succ]; rfl)); (focus (rw [hops.out]; rfl)); (focus rfl); (focus rfl); (focus rfl); (focus rfl))
      refine sch_done ?_
      refine schB_leaf ?_
      refine sch_done ?_
      clear hst0 hg1 hops
      have hts := TS.tb (F := [gX]) (TB.setRow gX wB #[.int .i64 P, .slice (some ⟨g, 0, none⟩) us.length c']) (by simp)
      have hrowX := setRow_heap wB gX _ #[.int .i64 P, .slice (some ⟨g, 0, none⟩) us.length c'] _ _ HXB.out
      have hoC := hts.ownV HOB.out (fun b hb hm => by cases hb; have := HNG.out; simp at hm; omega)
      have hrow2 := (hts.block (w.heap.size + 1) (Nat.lt_of_lt_of_le (Array.getElem?_eq_some_iff.1 HB2a.out).1 HFB.out.le) (by have := HGX.out; simp; omega)).trans ((HFB.out.block _ (Array.getElem?_eq_some_iff.1 HB2a.out).1).trans HB2a.out)
      have hfC := (HF1.out.trans HFB.out).setRow (g := gX) (by have := HGX.out; omega) #[.int .i64 P, .slice (some ⟨g, 0, none⟩) us.length c']
      clear hts HXB HOB HB1a HB2a HF1 HFB
      generalize wB.setRow _ _ = wC at *
      obtain ⟨s0, sf, sset⟩ := OwnV.cellset hoC (j := k) (by rw [List.length_map]; exact HK.out)
      have ho2 := sset (.bool b)
      obtain ⟨q0, q1⟩ := row2 hrowX
      have hs2 : TS [g] wC (wC.setCell ⟨g, k, none⟩ (.bool b)) := TS.tb (TB.set _ k _) (by simp)
      have hrowB := (hs2.block gX (Array.getElem?_eq_some_iff.1 hrowX).1 (by have := HNG.out; simp; omega)).trans hrowX
      obtain ⟨t0, t1⟩ := row2 hrowB
      have hrowC := (hs2.block (w.heap.size + 1) (Array.getElem?_eq_some_iff.1 hrow2).1 (by have := HG2.out; simp; omega)).trans hrow2
      have hst := sp_store (.int .i64 P) (.slice (some ⟨g, 0, none⟩) us.length c') hrowC (by simp [Value.oneCell'])
      have HF3 := Lib.hid (hfC.set (p := ⟨g, k, none⟩) (by have := HG2.out; simp; omega) (.bool b))
      have hrowX2 := hrowX
      generalize hW3 : wC.setCell ⟨g, k, none⟩ (.bool b) = w3 at *
      have HROW := Lib.hid (setRow_heap w3 (w.heap.size + 1) _ #[.int .i64 P, .slice (some ⟨g, 0, none⟩) us.length c'] _ _ hrowC)
      have HO := Lib.hid (show OwnV 4 (w3.setRow (w.heap.size + 1) #[.int .i64 P, .slice (some ⟨g, 0, none⟩) us.length c']) w.heap.size (.slice (some ⟨g, 0, none⟩) us.length c') ((us.set k b).map .bool) from by
        have := (TS.tb (F := [w.heap.size + 1]) (TB.setRow (w.heap.size + 1) w3 #[.int .i64 P, .slice (some ⟨g, 0, none⟩) us.length c']) (by simp)).ownV ho2 (fun b hb hm => by cases hb; have := HG2.out; simp at hm; omega)
        rw [List.map_set]
        exact this.lower (by omega))
      have HEND := Lib.hid (HF3.out.setRow (g := w.heap.size + 1) (by omega) #[.int .i64 P, .slice (some ⟨g, 0, none⟩) us.length c'])
      clear hrowX hrowX2 hoC hrow2 hfC sset ho2 hs2 hrowB hrowC
      go_wp2_with (refine wpList_store_by rfl _ _ _ rfl _ hst ?_)
      try simp only [Exit.inBlock, Exit.then]
      exact bodyPost_ret (v := .agg #[.int .i64 P, .slice (some ⟨g, 0, none⟩) us.length c']) (results_cell1' Try.results64 _ (w.heap.size + 1) rfl _ _ (sp_load HROW.out)) rfl ⟨_, _, rfl, HO.out, HEND.out⟩
    · (refine sch_run (o := ?_) (v := ?_) (a' := ?_) (w' := ?_) (at_of hops.out ?_) ?_ ?_ ?_ ?_ ?_; rotate_left 4; (focus (simp only [List.getElem?_toArray, List.getElem?_cons_zero, List.getElem?_cons_succ]; rfl)); (focus (rw [hops.out]; rfl)); (focus (go_simp; constructor <;> with_reducible rfl)); (focus (exact Below.alloc (Below.refl _ _) (by have := HNF.out; simp; omega) _)); (focus (simp only [Act.put, List.setIfInBounds_toArray, List.set_cons_zero, List.set_cons_succ]; rfl)))
      (refine sch_append (o := ?_) (at_of hops.out ?_) ?_ (.tmp 10) (.tmp 12) 39 4 1 (.bool false) Try.underlying39 info_b rfl ?_ wF0.heap.size _ [] ((OwnV.lit _ wF0 [] (by simp)).alloc _) ?_ A us.length c (us.map .bool) (by simp) ?_ ((((FB.refl wF0).alloc _).alloc _).rdV (HF1.out.rdV HR.out)) (one_bools us) (by have := HL.out; simp [maxLen]; omega) (by have := HL.out; simp; omega) (by simp <;> omega) ?_; rotate_left 1; (focus (simp only [List.getElem?_toArray, List.getElem?_cons_zero, List.getElem?_cons_succ]; rfl)); (focus (rw [hops.out]; rfl)); (focus rfl); (focus rfl); (focus rfl))
      intro v' wA ho hgr hob
      rw [List.nil_append] at ho
      refine ⟨Below.grown (Below.refl _ _) hgr (by have := HNF.out; simp; omega) (fun k hk => by have := HNF.out; cases hk; simp at *; omega), ?_⟩
      intro a' ha'; simp only [Act.put, List.setIfInBounds_toArray, List.set_cons_zero, List.set_cons_succ] at ha'; subst ha'
      obtain ⟨A', c', rfl, -, -, -, -⟩ := OwnV.form ho
      rw [List.length_map] at ho hob ⊢
      obtain ⟨g, rfl, hg1, hg2⟩ := OwnV.head0 ho (by rw [List.length_map]; have := HK.out; omega)
      clear hg1 hg2
      have HFB := Lib.hid ((((FB.refl wF0).alloc (.cells #[] 4)).alloc (.cells #[.int .i64 0, .slice none 0 0] 41)) |>.grown hgr (by simp [Value.ownBlock]))
      have HXB := Lib.hid (show wA.heap[wF0.heap.size + 1]? = some (.cells #[.int .i64 0, .slice none 0 0] 41 (0, 0)) from by
        rw [hgr.block (wF0.heap.size + 1) (by simp) (by simp [Value.ownBlock])]
        have := heap_alloc_new (wF0.alloc (.cells #[] 4)) (.cells #[.int .i64 0, .slice none 0 0] 41)
        simpa using this)
      have HNX := Lib.hid (show ∀ k, (Value.slice (some ⟨g, 0, none⟩) us.length c').ownBlock = some k → k ≠ wF0.heap.size + 1 from fun k hk => by
        simp only [Value.ownBlock, Option.map_some, Option.some.injEq] at hk hob
        subst hk
        rcases hob with e | e
        · omega
        · simp at e; omega)
      have HGX := Lib.hid (show w.heap.size + 2 ≤ wF0.heap.size + 1 from by have := HNF.out; omega)
      have HOB := Lib.hid (ho.lower (show w.heap.size + 2 ≤ wF0.heap.size from HNF.out))
      clear ho hgr hob
      repeat (refine sch_take (o := ?_) (v := ?_) (a' := ?_) (at_of hops.out ?_) ?_ (fun W hW => ?_) ?_ ?_; rotate_left 3; (focus (simp only [List.getElem?_toArray, List.getElem?_cons_zero, List.getElem?_cons_succ]; rfl)); (focus (rw [hops.out]; rfl)); (focus (go_simp; with_reducible rfl)); (focus (simp only [Act.put, List.setIfInBounds_toArray, List.set_cons_zero, List.set_cons_succ]; rfl)))
      generalize wF0.heap.size + 1 = gX at *
      obtain ⟨wB, hwB⟩ : ∃ wB : World, wB = wA := ⟨_, rfl⟩
      rw [← hwB] at HFB HXB HOB ⊢
      clear hwB
      have hg1 := (OwnV.base HOB.out g rfl).1
      have HNG := Lib.hid (show g ≠ gX from HNX.out g rfl)
      have HG2 := Lib.hid (show w.heap.size + 2 ≤ g from hg1)
      have hst0 := sp_store (.int .i64 P) (.slice (some ⟨g, 0, none⟩) us.length c') HXB.out (by simp [Value.oneCell'])
      (refine sch_storeR (o := ?_) (at_of hops.out ?_) ?_ 41 (.tmp 7) (.tmp 14) ?_ ?_ (.pointer (some ⟨gX, 0, none⟩)) (.agg #[.int .i64 P, .slice (some ⟨g, 0, none⟩) us.length c']) ?_ ?_ hst0 (below_setRow (Below.refl _ _) HGX.out _) ?_; rotate_left 1; (focus (simp only [List.getElem?_toArray, List.getElem?_cons_zero, List.getElem?_cons_succ]; rfl)); (focus (rw [hops.out]; rfl)); (focus rfl); (focus rfl); (focus rfl); (focus rfl))
      refine sch_done ?_
      refine schB_leaf ?_
      refine sch_done ?_
      clear hst0 hg1 hops
      have hts := TS.tb (F := [gX]) (TB.setRow gX wB #[.int .i64 P, .slice (some ⟨g, 0, none⟩) us.length c']) (by simp)
      have hrowX := setRow_heap wB gX _ #[.int .i64 P, .slice (some ⟨g, 0, none⟩) us.length c'] _ _ HXB.out
      have hoC := hts.ownV HOB.out (fun b hb hm => by cases hb; have := HNG.out; simp at hm; omega)
      have hrow2 := (hts.block (w.heap.size + 1) (Nat.lt_of_lt_of_le (Array.getElem?_eq_some_iff.1 HB2a.out).1 HFB.out.le) (by have := HGX.out; simp; omega)).trans ((HFB.out.block _ (Array.getElem?_eq_some_iff.1 HB2a.out).1).trans HB2a.out)
      have hfC := (HF1.out.trans HFB.out).setRow (g := gX) (by have := HGX.out; omega) #[.int .i64 P, .slice (some ⟨g, 0, none⟩) us.length c']
      clear hts HXB HOB HB1a HB2a HF1 HFB
      generalize wB.setRow _ _ = wC at *
      obtain ⟨s0, sf, sset⟩ := OwnV.cellset hoC (j := k) (by rw [List.length_map]; exact HK.out)
      have ho2 := sset (.bool b)
      obtain ⟨q0, q1⟩ := row2 hrowX
      have hs2 : TS [g] wC (wC.setCell ⟨g, k, none⟩ (.bool b)) := TS.tb (TB.set _ k _) (by simp)
      have hrowB := (hs2.block gX (Array.getElem?_eq_some_iff.1 hrowX).1 (by have := HNG.out; simp; omega)).trans hrowX
      obtain ⟨t0, t1⟩ := row2 hrowB
      have hrowC := (hs2.block (w.heap.size + 1) (Array.getElem?_eq_some_iff.1 hrow2).1 (by have := HG2.out; simp; omega)).trans hrow2
      have hst := sp_store (.int .i64 P) (.slice (some ⟨g, 0, none⟩) us.length c') hrowC (by simp [Value.oneCell'])
      have HF3 := Lib.hid (hfC.set (p := ⟨g, k, none⟩) (by have := HG2.out; simp; omega) (.bool b))
      have hrowX2 := hrowX
      generalize hW3 : wC.setCell ⟨g, k, none⟩ (.bool b) = w3 at *
      have HROW := Lib.hid (setRow_heap w3 (w.heap.size + 1) _ #[.int .i64 P, .slice (some ⟨g, 0, none⟩) us.length c'] _ _ hrowC)
      have HO := Lib.hid (show OwnV 4 (w3.setRow (w.heap.size + 1) #[.int .i64 P, .slice (some ⟨g, 0, none⟩) us.length c']) w.heap.size (.slice (some ⟨g, 0, none⟩) us.length c') ((us.set k b).map .bool) from by
        have := (TS.tb (F := [w.heap.size + 1]) (TB.setRow (w.heap.size + 1) w3 #[.int .i64 P, .slice (some ⟨g, 0, none⟩) us.length c']) (by simp)).ownV ho2 (fun b hb hm => by cases hb; have := HG2.out; simp at hm; omega)
        rw [List.map_set]
        exact this.lower (by omega))
      have HEND := Lib.hid (HF3.out.setRow (g := w.heap.size + 1) (by omega) #[.int .i64 P, .slice (some ⟨g, 0, none⟩) us.length c'])
      clear hrowX hrowX2 hoC hrow2 hfC sset ho2 hs2 hrowB hrowC
      go_wp2_with (refine wpList_store_by rfl _ _ _ rfl _ hst ?_)
      try simp only [Exit.inBlock, Exit.then]
      exact bodyPost_ret (v := .agg #[.int .i64 P, .slice (some ⟨g, 0, none⟩) us.length c']) (results_cell1' Try.results64 _ (w.heap.size + 1) rfl _ _ (sp_load HROW.out)) rfl ⟨_, _, rfl, HO.out, HEND.out⟩
  · (refine sch_run (o := ?_) (v := ?_) (a' := ?_) (w' := ?_) (at_of hops.out ?_) ?_ ?_ ?_ ?_ ?_; rotate_left 4; (focus (simp only [List.getElem?_toArray, List.getElem?_cons_zero, List.getElem?_cons_succ]; rfl)); (focus (rw [hops.out]; rfl)); (focus (go_simp; constructor <;> with_reducible rfl)); (focus (exact Below.alloc (Below.refl _ _) HNF.out _)); (focus (simp only [Act.put, List.setIfInBounds_toArray, List.set_cons_zero, List.set_cons_succ]; rfl)))
    (refine sch_run (o := ?_) (v := ?_) (a' := ?_) (w' := ?_) (at_of hops.out ?_) ?_ ?_ ?_ ?_ ?_; rotate_left 4; (focus (simp only [List.getElem?_toArray, List.getElem?_cons_zero, List.getElem?_cons_succ]; rfl)); (focus (rw [hops.out]; rfl)); (focus (go_simp; constructor <;> with_reducible rfl)); (focus (exact Below.alloc (Below.refl _ _) (by have := HNF.out; simp; omega) _)); (focus (simp only [Act.put, List.setIfInBounds_toArray, List.set_cons_zero, List.set_cons_succ]; rfl)))
    (refine sch_append (o := ?_) (at_of hops.out ?_) ?_ (.tmp 10) (.tmp 12) 39 4 1 (.bool false) Try.underlying39 info_b rfl ?_ (wF0.heap.size + 1) _ [] (by simpa using OwnV.lit 4 (wF0.alloc (.cells #[.int .i64 0, .slice none 0 0] 41)) [] (by simp)) ?_ A us.length c (us.map .bool) (by simp) ?_ ((((FB.refl wF0).alloc _).alloc _).rdV (HF1.out.rdV HR.out)) (one_bools us) (by have := HL.out; simp [maxLen]; omega) (by have := HL.out; simp; omega) (by simp <;> omega) ?_; rotate_left 1; (focus (simp only [List.getElem?_toArray, List.getElem?_cons_zero, List.getElem?_cons_succ]; rfl)); (focus (rw [hops.out]; rfl)); (focus rfl); (focus rfl); (focus rfl))
    intro v' wA ho hgr hob
    rw [List.nil_append] at ho
    refine ⟨Below.grown (Below.refl _ _) hgr (by have := HNF.out; simp; omega) (fun k hk => by have := HNF.out; cases hk; simp at *; omega), ?_⟩
    intro a' ha'; simp only [Act.put, List.setIfInBounds_toArray, List.set_cons_zero, List.set_cons_succ] at ha'; subst ha'
    obtain ⟨A', c', rfl, -, -, -, -⟩ := OwnV.form ho
    rw [List.length_map] at ho hob ⊢
    obtain ⟨g, rfl, hg1, hg2⟩ := OwnV.head0 ho (by rw [List.length_map]; have := HK.out; omega)
    clear hg1 hg2
    have HFB := Lib.hid ((((FB.refl wF0).alloc (.cells #[.int .i64 0, .slice none 0 0] 41)).alloc (.cells #[] 4)) |>.grown hgr (by simp [Value.ownBlock]))
    have HXB := Lib.hid (show wA.heap[wF0.heap.size]? = some (.cells #[.int .i64 0, .slice none 0 0] 41 (0, 0)) from by
      rw [hgr.block wF0.heap.size (by simp; omega) (by simp [Value.ownBlock])]
      rw [((FB.refl (wF0.alloc (.cells #[.int .i64 0, .slice none 0 0] 41))).alloc _).block _ (by simp)]; exact heap_alloc_new _ _)
    have HNX := Lib.hid (show ∀ k, (Value.slice (some ⟨g, 0, none⟩) us.length c').ownBlock = some k → k ≠ wF0.heap.size from fun k hk => by
      have := (OwnV.base ho k hk).1; omega)
    have HGX := HNF
    have HOB := Lib.hid (ho.lower (show w.heap.size + 2 ≤ wF0.heap.size + 1 from by have := HNF.out; omega))
    clear ho hgr hob
    repeat (refine sch_take (o := ?_) (v := ?_) (a' := ?_) (at_of hops.out ?_) ?_ (fun W hW => ?_) ?_ ?_; rotate_left 3; (focus (simp only [List.getElem?_toArray, List.getElem?_cons_zero, List.getElem?_cons_succ]; rfl)); (focus (rw [hops.out]; rfl)); (focus (go_simp; with_reducible rfl)); (focus (simp only [Act.put, List.setIfInBounds_toArray, List.set_cons_zero, List.set_cons_succ]; rfl)))
    obtain ⟨wB, hwB⟩ : ∃ wB : World, wB = wA := ⟨_, rfl⟩
    rw [← hwB] at HFB HXB HOB ⊢
    clear hwB
    obtain ⟨gX, hgX⟩ : ∃ gX, gX = wF0.heap.size := ⟨_, rfl⟩
    rw [← hgX] at HXB HNX HGX ⊢
    clear hgX
    have hg1 := (OwnV.base HOB.out g rfl).1
    have HNG := Lib.hid (show g ≠ gX from HNX.out g rfl)
    have HG2 := Lib.hid (show w.heap.size + 2 ≤ g from hg1)
    have hst0 := sp_store (.int .i64 P) (.slice (some ⟨g, 0, none⟩) us.length c') HXB.out (by simp [Value.oneCell'])
    (refine sch_storeR (o := ?_) (at_of hops.out ?_) ?_ 41 (.tmp 7) (.tmp 14) ?_ ?_ (.pointer (some ⟨gX, 0, none⟩)) (.agg #[.int .i64 P, .slice (some ⟨g, 0, none⟩) us.length c']) ?_ ?_ hst0 (below_setRow (Below.refl _ _) HGX.out _) ?_; rotate_left 1; (focus (simp only [List.getElem?_toArray, List.getElem?_cons_zero, List.getElem?_cons_succ]; rfl)); (focus (rw [hops.out]; rfl)); (focus rfl); (focus rfl); (focus rfl); (focus rfl))
    refine sch_done ?_
    refine schB_leaf ?_
    refine sch_done ?_
    clear hst0 hg1 hops
    have hts := TS.tb (F := [gX]) (TB.setRow gX wB #[.int .i64 P, .slice (some ⟨g, 0, none⟩) us.length c']) (by simp)
    have hrowX := setRow_heap wB gX _ #[.int .i64 P, .slice (some ⟨g, 0, none⟩) us.length c'] _ _ HXB.out
    have hoC := hts.ownV HOB.out (fun b hb hm => by cases hb; have := HNG.out; simp at hm; omega)
    have hrow2 := (hts.block (w.heap.size + 1) (Nat.lt_of_lt_of_le (Array.getElem?_eq_some_iff.1 HB2a.out).1 HFB.out.le) (by have := HGX.out; simp; omega)).trans ((HFB.out.block _ (Array.getElem?_eq_some_iff.1 HB2a.out).1).trans HB2a.out)
    have hfC := (HF1.out.trans HFB.out).setRow (g := gX) (by have := HGX.out; omega) #[.int .i64 P, .slice (some ⟨g, 0, none⟩) us.length c']
    clear hts HXB HOB HB1a HB2a HF1 HFB
    generalize wB.setRow _ _ = wC at *
    obtain ⟨s0, sf, sset⟩ := OwnV.cellset hoC (j := k) (by rw [List.length_map]; exact HK.out)
    have ho2 := sset (.bool b)
    obtain ⟨q0, q1⟩ := row2 hrowX
    have hs2 : TS [g] wC (wC.setCell ⟨g, k, none⟩ (.bool b)) := TS.tb (TB.set _ k _) (by simp)
    have hrowB := (hs2.block gX (Array.getElem?_eq_some_iff.1 hrowX).1 (by have := HNG.out; simp; omega)).trans hrowX
    obtain ⟨t0, t1⟩ := row2 hrowB
    have hrowC := (hs2.block (w.heap.size + 1) (Array.getElem?_eq_some_iff.1 hrow2).1 (by have := HG2.out; simp; omega)).trans hrow2
    have hst := sp_store (.int .i64 P) (.slice (some ⟨g, 0, none⟩) us.length c') hrowC (by simp [Value.oneCell'])
    have HF3 := Lib.hid (hfC.set (p := ⟨g, k, none⟩) (by have := HG2.out; simp; omega) (.bool b))
    have hrowX2 := hrowX
    generalize hW3 : wC.setCell ⟨g, k, none⟩ (.bool b) = w3 at *
    have HROW := Lib.hid (setRow_heap w3 (w.heap.size + 1) _ #[.int .i64 P, .slice (some ⟨g, 0, none⟩) us.length c'] _ _ hrowC)
    have HO := Lib.hid (show OwnV 4 (w3.setRow (w.heap.size + 1) #[.int .i64 P, .slice (some ⟨g, 0, none⟩) us.length c']) w.heap.size (.slice (some ⟨g, 0, none⟩) us.length c') ((us.set k b).map .bool) from by
      have := (TS.tb (F := [w.heap.size + 1]) (TB.setRow (w.heap.size + 1) w3 #[.int .i64 P, .slice (some ⟨g, 0, none⟩) us.length c']) (by simp)).ownV ho2 (fun b hb hm => by cases hb; have := HG2.out; simp at hm; omega)
      rw [List.map_set]
      exact this.lower (by omega))
    have HEND := Lib.hid (HF3.out.setRow (g := w.heap.size + 1) (by omega) #[.int .i64 P, .slice (some ⟨g, 0, none⟩) us.length c'])
    clear hrowX hrowX2 hoC hrow2 hfC sset ho2 hs2 hrowB hrowC
    go_wp2_with (refine wpList_store_by rfl _ _ _ rfl _ hst ?_)
    try simp only [Exit.inBlock, Exit.then]
    exact bodyPost_ret (v := .agg #[.int .i64 P, .slice (some ⟨g, 0, none⟩) us.length c']) (results_cell1' Try.results64 _ (w.heap.size + 1) rfl _ _ (sp_load HROW.out)) rfl ⟨_, _, rfl, HO.out, HEND.out⟩
end Go.Proofs.Ytjhgnohofcahbaa
