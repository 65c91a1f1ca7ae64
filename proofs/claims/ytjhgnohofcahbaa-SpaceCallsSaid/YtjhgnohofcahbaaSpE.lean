/- space: the walks through slices.Equal of bools, Same, tallymankit.Space, Both. -/
import Derived.Test.YtjhgnohofcahbaaSpD
set_option linter.unusedVariables false
set_option linter.unusedSimpArgs false
namespace Go.Proofs.Ytjhgnohofcahbaa
open Go.ChangeShapes Go.WideShapes Go.ChangeAt Go.RowKit
set_option maxRecDepth 100000

set_option maxHeartbeats 1000000 in
theorem sl_EqualB (us vs : List Bool) (A B : Option Addr) (n m ca cb : Nat) (w : World) (hn : n = us.length) (hm : m = vs.length) (hz : us.length ≤ 1000000000) (hy : vs.length ≤ 1000000000) (hra : RdV w A (us.map .bool)) (hrb : RdV w B (vs.map .bool)) :
    Calls Try.prog 58 #[.slice A n ca, .slice B m cb] w fun e w' => e = .returned (.bool (decide (us = vs))) ∧ FB w w' := by
  subst hn hm
  have HRA := Lib.hid hra
  have HRB := Lib.hid hrb
  by_cases hl : us.length = vs.length
  · have HL := Lib.hid hl
    have hli : (us.length : Int) = (vs.length : Int) := by omega
    have hne : ((us.length : Int) != (vs.length : Int)) = false := by rw [hli]; simp
    generalize hC : decide (us = vs) = C
    have HC := Lib.hid hC
    clear hra hrb hl hli hC
    go_enter Try.func58, Try.ntmps58
    go_wp2
    go_loopw [13] (fun i wr => ∃ j : Nat, j ≤ us.length ∧ i = .int .i64 j ∧ Hid (us.take j = vs.take j) ∧ Hid (FB w wr)) (fun i wr => us.length - (intOf i).toNat)
    case atStart => exact ⟨0, by omega, rfl, by rfl, FB.refl _⟩
    case round =>
      obtain ⟨j, hj, rfl, HT, HF0⟩ := hrel
      by_cases hlt : j < us.length
      · have hjy : j < vs.length := by have := HL.out; omega
        have hjx : (j : Int) < (us.length : Int) := by omega
        have hjz : (j : Int) < (vs.length : Int) := by omega
        obtain ⟨a, oa, rfl, -⟩ := RdV.bcell HRA.out hlt
        obtain ⟨b, ob, rfl, -⟩ := RdV.bcell HRB.out hjy
        have HRA1 := Lib.hid (HF0.out.rdV HRA.out)
        have HRB1 := Lib.hid (HF0.out.rdV HRB.out)
        go_wp2_with fail
        obtain ⟨W0, hW0⟩ : ∃ W0 : World, W0 = wr := ⟨_, rfl⟩
        subst hW0
        refine region_sch (E := FB) ((0, true) :: (1, true) :: (2, true) :: (3, true) :: (4, true) :: (5, true) :: (6, true) :: (7, true) :: (8, true) :: []) (by kernel_rfl) FB.refl fb_trans (fun _ _ d _ _ h => by cases d <;> exact h) (by kernel_rfl) ?_
        intro ops hops0
        have hops := Lib.hid hops0
        clear hops0
        have HF : FB W0 W0.drew := (FB.refl _).drew
        generalize W0.drew = wF at *
        have HRA2 := Lib.hid (FB.rdV HF HRA1.out)
        have HRB2 := Lib.hid (FB.rdV HF HRB1.out)
        repeat (refine sch_take (o := ?_) (v := ?_) (a' := ?_) (at_of hops.out ?_) ?_ (fun W hW => ?_) ?_ ?_; rotate_left 3; (focus (simp only [List.getElem?_toArray, List.getElem?_cons_zero, List.getElem?_cons_succ]; rfl)); (focus (rw [hops.out]; rfl)); (focus (obtain ⟨a1, oa1, e1, u1⟩ := RdV.bcell (FB.rdV hW HRA2.out) hlt; cases e1; obtain ⟨b1, ob1, e2, u2⟩ := RdV.bcell (FB.rdV hW HRB2.out) hjy; cases e2; go_simp; with_reducible rfl)); (focus (simp only [Act.put, List.setIfInBounds_toArray, List.set_cons_zero, List.set_cons_succ]; rfl)))
        refine sch_done ?_
        have HF3 := Lib.hid (HF0.out.trans HF)
        have htk : us.take (j + 1) = us.take j ++ [us[j]] := by rw [List.take_succ_eq_append_getElem hlt]
        have htk2 : vs.take (j + 1) = vs.take j ++ [vs[j]] := by rw [List.take_succ_eq_append_getElem hjy]
        have HX := Lib.hid (fun (hne : us[j] ≠ vs[j]) => show C = false from by rw [← HC.out]; simp only [decide_eq_false_iff_not]; intro e; subst e; exact hne rfl)
        have HT2 := Lib.hid (fun (he : us[j] = vs[j]) => show us.take (j + 1) = vs.take (j + 1) by rw [htk, htk2, HT.out, he])
        clear htk htk2 hops
        generalize us[j] = a1 at *
        generalize vs[j] = b1 at *
        by_cases he : a1 = b1
        · subst he
          have HT3 := Lib.hid (HT2.out rfl)
          clear HT2 HX
          cases a1
          all_goals
            go_wp2
            go_roundw
            case rel => exact ⟨j + 1, by omega, by go_num, HT3.out, HF3.out⟩
            case measure => simp [intOf]; omega
        · have HX2 := Lib.hid (HX.out he)
          clear HT2 HX
          cases a1 <;> cases b1 <;> first
            | exact absurd rfl he
            | (clear he
               go_wp2
               go_ret
               exact ⟨by rw [HX2.out]; rfl, HF3.out⟩)
      · obtain rfl : j = us.length := by omega
        have HX := Lib.hid (show C = true from by rw [← HC.out]; simp only [decide_eq_true_eq]; have := HT.out; rw [List.take_length, HL.out, List.take_length] at this; exact this)
        have hjz : ¬ ((us.length : Nat) : Int) < (us.length : Int) := by omega
        go_wp2
        go_ret
        exact ⟨by rw [HX.out]; rfl, HF0.out⟩
  · have hne : ((us.length : Int) != (vs.length : Int)) = true := by simp; omega
    rw [show decide (us = vs) = false from by simp only [decide_eq_false_iff_not]; intro e; exact hl (by rw [e])]
    clear hra hrb hl
    go_enter Try.func58, Try.ntmps58
    go_wp2
    go_ret
    exact ⟨rfl, FB.refl _⟩
/-- Are spaces the same? -/
def spSame (P : Int) (us : List Bool) (Q : Int) (vs : List Bool) : Bool := decide (P = Q) && decide (us = vs)
/-- Two spaces in boxes. -/
theorem box22 (w : World) (a b c d : Value) : let W := (w.alloc (.cells #[a, b] 41)).alloc (.cells #[c, d] 41)
    FB w W ∧ W.heap[w.heap.size]? = some (.cells #[a, b] 41 (0, 0)) ∧ W.heap[w.heap.size + 1]? = some (.cells #[c, d] 41 (0, 0)) ∧ W.heap.size = w.heap.size + 2 := by
  refine ⟨((FB.refl w).alloc _).alloc _, ?_, ?_, by simp⟩
  · rw [((FB.refl (w.alloc (.cells #[a, b] 41))).alloc _).block _ (by simp)]; exact heap_alloc_new _ _
  · have := heap_alloc_new (w.alloc (.cells #[a, b] 41)) (.cells #[c, d] 41)
    simpa using this
set_option maxHeartbeats 1000000 in
theorem sp_Same (P Q : Int) (us vs : List Bool) (A B : Option Addr) (ca cb : Nat) (w : World) (hz : us.length ≤ 1000000000) (hy : vs.length ≤ 1000000000) (hra : RdV w A (us.map .bool)) (hrb : RdV w B (vs.map .bool)) :
    Calls Try.prog 26 #[.agg #[.int .i64 P, .slice A us.length ca], .agg #[.int .i64 Q, .slice B vs.length cb]] w fun e w' => e = .returned (.bool (spSame P us Q vs)) ∧ FB w w' := by
  obtain ⟨hf, hb1, hb2, -⟩ := box22 w (.int .i64 P) (.slice A us.length ca) (.int .i64 Q) (.slice B vs.length cb)
  have HF := Lib.hid hf
  have HE := Lib.hid (sl_EqualB us vs A B us.length vs.length ca cb _ rfl rfl hz hy (hf.rdV hra) (hf.rdV hrb))
  obtain ⟨q0, q1⟩ := row2 hb1
  obtain ⟨r0, r1⟩ := row2 hb2
  clear hf hb1 hb2 hra hrb
  unfold spSame
  by_cases hpq : P = Q
  · rw [decide_eq_true hpq, Bool.true_and]
    have hbe : (P == Q) = true := by simpa using hpq
    clear hpq
    go_enter Try.func26, Try.ntmps26
    go_wp2_with fail
    refine HE.out.mono ?_
    rintro e w1 ⟨rfl, hb⟩
    have HF1 := Lib.hid (HF.out.trans hb)
    clear hb
    go_wp2
    go_ret
    exact ⟨rfl, HF1.out⟩
  · rw [decide_eq_false hpq, Bool.false_and]
    have hbe : (P == Q) = false := by simpa using hpq
    clear hpq
    go_enter Try.func26, Try.ntmps26
    go_wp2
    go_ret
    exact ⟨rfl, HF.out⟩
set_option maxHeartbeats 1000000 in
theorem kit_Space (P Q : Int) (us vs : List Bool) (A B : Option Addr) (ca cb : Nat) (w : World) (hz : us.length ≤ 1000000000) (hy : vs.length ≤ 1000000000) (hra : RdV w A (us.map .bool)) (hrb : RdV w B (vs.map .bool)) :
    Calls Try.prog 37 #[.agg #[.int .i64 P, .slice A us.length ca], .agg #[.int .i64 Q, .slice B vs.length cb]] w fun e w' => e = .returned (.bool (spSame P us Q vs)) ∧ FB w w' := by
  obtain ⟨hf, hb1, hb2, hsz⟩ := box22 w (.int .i64 P) (.slice A us.length ca) (.int .i64 Q) (.slice B vs.length cb)
  have HFX := Lib.hid hf
  have HRA := Lib.hid (hf.rdV hra)
  have HRB := Lib.hid (hf.rdV hrb)
  have HB1 := Lib.hid hb1
  have HB2 := Lib.hid hb2
  obtain ⟨q0, q1⟩ := row2 hb1
  obtain ⟨r0, r1⟩ := row2 hb2
  clear hf hb1 hb2 hra hrb hsz
  unfold spSame
  by_cases hpq : P = Q
  · rw [decide_eq_true hpq, Bool.true_and]
    have hbe : (P != Q) = false := by simpa using hpq
    by_cases hl : us.length = vs.length
    · have HL := Lib.hid hl
      have hli : (us.length : Int) = (vs.length : Int) := by omega
      have hne : ((us.length : Int) != (vs.length : Int)) = false := by rw [hli]; simp
      generalize hC : decide (us = vs) = C
      have HC := Lib.hid hC
      clear hl hli hC hpq
      go_enter Try.func37, Try.ntmps37
      go_wp2_with fail
      clear q0 q1 r0 r1
      generalize (w.alloc (.cells #[.int .i64 P, .slice A us.length ca] 41)).alloc (.cells #[.int .i64 Q, .slice B vs.length cb] 41) = w0 at *
      go_loopw [5] (fun i wr => ∃ j : Nat, j ≤ us.length ∧ i = .int .i64 j ∧ Hid (us.take j = vs.take j) ∧ Hid (FB w0 wr)) (fun i wr => us.length - (intOf i).toNat)
      case atStart => exact ⟨0, by omega, rfl, by rfl, FB.refl _⟩
      case round =>
        obtain ⟨j, hj, rfl, HT, HF0⟩ := hrel
        have HB1r := Lib.hid ((HF0.out.block _ (Array.getElem?_eq_some_iff.1 HB1.out).1).trans HB1.out)
        have HB2r := Lib.hid ((HF0.out.block _ (Array.getElem?_eq_some_iff.1 HB2.out).1).trans HB2.out)
        obtain ⟨q0, q1⟩ := row2 HB1r.out
        obtain ⟨r0, r1⟩ := row2 HB2r.out
        by_cases hlt : j < us.length
        · have hjy : j < vs.length := by have := HL.out; omega
          have hjx : (j : Int) < (us.length : Int) := by omega
          have hjz : (j : Int) < (vs.length : Int) := by omega
          obtain ⟨a, oa, rfl, -⟩ := RdV.bcell HRA.out hlt
          obtain ⟨b, ob, rfl, -⟩ := RdV.bcell HRB.out hjy
          have HRA1 := Lib.hid (HF0.out.rdV HRA.out)
          have HRB1 := Lib.hid (HF0.out.rdV HRB.out)
          go_wp2_with fail
          clear q0 q1 r0 r1
          obtain ⟨W0, hW0⟩ : ∃ W0 : World, W0 = wr := ⟨_, rfl⟩
          subst hW0
          refine region_sch (E := FB) ((0, true) :: (1, true) :: (2, true) :: (3, true) :: (4, true) :: (5, true) :: (6, true) :: (7, true) :: (8, true) :: (9, true) :: (10, true) :: []) (by kernel_rfl) FB.refl fb_trans (fun _ _ d _ _ h => by cases d <;> exact h) (by kernel_rfl) ?_
          intro ops hops0
          have hops := Lib.hid hops0
          clear hops0
          have HF : FB W0 W0.drew := (FB.refl _).drew
          generalize W0.drew = wF at *
          have HFq : FB W0 wF := HF
          have HRA2 := Lib.hid (FB.rdV HFq HRA1.out)
          have HRB2 := Lib.hid (FB.rdV HFq HRB1.out)
          have HB1s := Lib.hid ((FB.block HFq _ (Array.getElem?_eq_some_iff.1 HB1r.out).1).trans HB1r.out)
          have HB2s := Lib.hid ((FB.block HFq _ (Array.getElem?_eq_some_iff.1 HB2r.out).1).trans HB2r.out)
          repeat (refine sch_take (o := ?_) (v := ?_) (a' := ?_) (at_of hops.out ?_) ?_ (fun W hW => ?_) ?_ ?_; rotate_left 3; (focus (simp only [List.getElem?_toArray, List.getElem?_cons_zero, List.getElem?_cons_succ]; rfl)); (focus (rw [hops.out]; rfl)); (focus (obtain ⟨a1, oa1, e1, u1⟩ := RdV.bcell (FB.rdV hW HRA2.out) hlt; cases e1; obtain ⟨b1, ob1, e2, u2⟩ := RdV.bcell (FB.rdV hW HRB2.out) hjy; cases e2; have u3 := (row2 ((FB.block hW _ (Array.getElem?_eq_some_iff.1 HB1s.out).1).trans HB1s.out)).2; have u4 := (row2 ((FB.block hW _ (Array.getElem?_eq_some_iff.1 HB2s.out).1).trans HB2s.out)).2; go_simp; with_reducible rfl)); (focus (simp only [Act.put, List.setIfInBounds_toArray, List.set_cons_zero, List.set_cons_succ]; rfl)))
          refine sch_done ?_
          have HF3 := Lib.hid (HF0.out.trans HFq)
          have htk : us.take (j + 1) = us.take j ++ [us[j]] := by rw [List.take_succ_eq_append_getElem hlt]
          have htk2 : vs.take (j + 1) = vs.take j ++ [vs[j]] := by rw [List.take_succ_eq_append_getElem hjy]
          have HX := Lib.hid (fun (hne : us[j] ≠ vs[j]) => show C = false from by rw [← HC.out]; simp only [decide_eq_false_iff_not]; intro e; subst e; exact hne rfl)
          have HT2 := Lib.hid (fun (he : us[j] = vs[j]) => show us.take (j + 1) = vs.take (j + 1) by rw [htk, htk2, HT.out, he])
          clear htk htk2 hops
          generalize us[j] = a1 at *
          generalize vs[j] = b1 at *
          by_cases he : a1 = b1
          · subst he
            have HT3 := Lib.hid (HT2.out rfl)
            clear HT2 HX
            cases a1
            all_goals
              go_wp2
              go_roundw
              case rel => exact ⟨j + 1, by omega, by go_num, HT3.out, HF3.out⟩
              case measure => simp [intOf]; omega
          · have HX2 := Lib.hid (HX.out he)
            clear HT2 HX
            cases a1 <;> cases b1 <;> first
              | exact absurd rfl he
              | (clear he
                 go_wp2
                 go_ret
                 exact ⟨by rw [HX2.out]; rfl, HFX.out.trans HF3.out⟩)
        · obtain rfl : j = us.length := by omega
          have HX := Lib.hid (show C = true from by rw [← HC.out]; simp only [decide_eq_true_eq]; have := HT.out; rw [List.take_length, HL.out, List.take_length] at this; exact this)
          have hjz : ¬ ((us.length : Nat) : Int) < (us.length : Int) := by omega
          go_wp2
          go_ret
          exact ⟨by rw [HX.out]; rfl, HFX.out.trans HF0.out⟩
    · have hne : ((us.length : Int) != (vs.length : Int)) = true := by simp; omega
      rw [show decide (us = vs) = false from by simp only [decide_eq_false_iff_not]; intro e; exact hl (by rw [e])]
      clear hl hpq
      go_enter Try.func37, Try.ntmps37
      go_wp2
      go_ret
      exact ⟨rfl, HFX.out⟩
  · rw [decide_eq_false hpq, Bool.false_and]
    have hbe : (P != Q) = true := by simpa using hpq
    clear hpq
    go_enter Try.func37, Try.ntmps37
    go_wp2
    go_ret
    exact ⟨rfl, HFX.out⟩
end Go.Proofs.Ytjhgnohofcahbaa
