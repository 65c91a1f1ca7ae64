/- The walk through PageTorn. -/
import Derived.Test.YtihljjfnjclefaaDoorPgL
import Derived.Test.YtihljjfnjclefaaDoorRgC
set_option linter.unusedVariables false
set_option linter.unusedSimpArgs false
namespace Go.Proofs.YtihljjfnjclefaaDoor
open Go.ChangeShapes Go.WideShapes Go.ChangeAt Go.RowKit
attribute [local go_sem] nb_nonneg nb_lt8 nb_lt64
set_option maxRecDepth 100000

theorem pg_pickN (z : Int) (m : Nat) (h : 1 ≤ m) : ∃ n : Nat, pick z (m : Int) = (n : Int) ∧ n < m := by
  have := pick_range z (m : Int) (by omega)
  exact ⟨(pick z (m : Int)).toNat, by omega, by omega⟩
set_option maxHeartbeats 8000000 in
theorem pageTorn_walk (K : Int) (n : BitVec 32) (A : Option Addr) (c : Nat) (x : List Byte) (K' : Int) (n' : BitVec 32) (B : Option Addr) (d : Nat) (y : List Byte) (za zb : Int) (w : World) (hc : x.length ≤ c) (hm : c ≤ maxLen) (hr : Rd w A x) (hK : -9223372036854775808 ≤ K ∧ K ≤ 9223372036854775807) (hc2 : y.length ≤ d) (hm2 : d ≤ maxLen) (hr2 : Rd w B y) (hK2 : -9223372036854775808 ≤ K' ∧ K' ≤ 9223372036854775807) (hza : -9223372036854775808 ≤ za ∧ za ≤ 9223372036854775807) (hzb : -9223372036854775808 ≤ zb ∧ zb ≤ 9223372036854775807) :
    Calls Tryd.prog 3 #[.agg #[.int .i64 K, .int .u32 (nb n), .slice A x.length c], .agg #[.int .i64 K', .int .u32 (nb n'), .slice B y.length d], .int .i64 za, .int .i64 zb] w fun e w' => e = .returned (.bool true) ∧ Below w.heap.size w w' := by
  obtain ⟨hf, hb1, hb2, -⟩ := pbox22 w (.int .i64 K) (.int .u32 (nb n)) (.slice A x.length c) (.int .i64 K') (.int .u32 (nb n')) (.slice B y.length d)
  have HF0 := Lib.hid hf
  have HP0 := Lib.hid hb1
  have HQ0 := Lib.hid hb2
  have HRX := Lib.hid hr
  have HRY := Lib.hid hr2
  have HCX := Lib.hid (And.intro hc hm)
  have HCY := Lib.hid (And.intro hc2 hm2)
  clear hf hb1 hb2 hr hr2 hc hm hc2 hm2 hK hK2 hza hzb
  go_enter Tryd.func3, Tryd.ntmps3
  go_wp2_with fail
  obtain ⟨W1, hW1⟩ : ∃ W1 : World, W1 = (w.alloc (.cells #[.int .i64 K, .int .u32 (nb n), .slice A x.length c] 25)).alloc (.cells #[.int .i64 K', .int .u32 (nb n'), .slice B y.length d] 25) := ⟨_, rfl⟩
  simp only [← hW1] at HF0 HP0 HQ0 ⊢
  clear hW1
  refine (pg_lives _).mono ?_
  rintro e w1 ⟨rfl, hb⟩
  have HF1 := Lib.hid (HF0.out.trans hb)
  have HP1 := Lib.hid ((hb.block _ (Array.getElem?_eq_some_iff.1 HP0.out).1).trans HP0.out)
  have HQ1 := Lib.hid ((hb.block _ (Array.getElem?_eq_some_iff.1 HQ0.out).1).trans HQ0.out)
  clear hb HF0 HP0 HQ0
  obtain ⟨q0, q1, q2⟩ := prow3 HP1.out
  obtain ⟨r0, r1, r2⟩ := prow3 HQ1.out
  by_cases h1 : 4080 < x.length
  · have hz : 4080 < (x.length : Int) := by omega
    go_wp2
    go_ret
    exact ⟨rfl, HF1.out⟩
  · by_cases h2 : 4080 < y.length
    · have hz : ¬ 4080 < (x.length : Int) := by omega
      have hz2 : 4080 < (y.length : Int) := by omega
      go_wp2
      go_ret
      exact ⟨rfl, HF1.out⟩
    · have hz : ¬ 4080 < (x.length : Int) := by omega
      have hz2 : ¬ 4080 < (y.length : Int) := by omega
      have HLX := Lib.hid (show x.length ≤ 4080 from by omega)
      have HLY := Lib.hid (show y.length ≤ 4080 from by omega)
      clear h1 h2
      go_wp2_with fail
      clear q0 q1 q2 r0 r1 r2 hz hz2
      refine region_sch (E := TS ([w.heap.size + 1])) ((0, true) :: (1, true) :: (2, true) :: (3, true) :: (4, true) :: (5, false) :: (6, true) :: (7, false) :: []) (by kernel_rfl) (TS.refl _) (fun _ _ _ h k => TS.then h k) (fun _ _ d _ _ h => by cases d <;> exact h) (by kernel_rfl) ?_
      intro ops hops0
      have hops := Lib.hid hops0
      clear hops0
      have HF : TS ([w.heap.size + 1]) w1 w1.drew := TS.of (FB.refl _).drew
      have HD : FB w1 w1.drew := (FB.refl _).drew
      generalize w1.drew = wF1 at *
      have HPF := Lib.hid ((HD.block _ (Array.getElem?_eq_some_iff.1 HP1.out).1).trans HP1.out)
      have HQF := Lib.hid ((HD.block _ (Array.getElem?_eq_some_iff.1 HQ1.out).1).trans HQ1.out)
      have HFF := Lib.hid (HF1.out.trans HD)
      have HPK := Lib.hid (prow3 HPF.out)
      repeat (refine sch_take (o := ?_) (v := ?_) (a' := ?_) (at_of hops.out ?_) ?_ (fun W hW => ?_) ?_ ?_; rotate_left 3; (focus (simp only [List.getElem?_toArray, List.getElem?_cons_zero, List.getElem?_cons_succ]; rfl)); (focus (rw [hops.out]; rfl)); (focus (have u1 := TS.cell hW HPK.out.1 (by simp); have u2 := TS.cell hW HPK.out.2.1 (by simp); go_simp; with_reducible rfl)); (focus (simp only [Act.put, List.setIfInBounds_toArray, List.set_cons_zero, List.set_cons_succ]; rfl)))
      have q0 := (prow3 HQF.out).1
      have q1 := frozen_row _ HQF.out 0
      have HE1 := Lib.hid (show TS [w.heap.size + 1] wF1 (wF1.setCell ⟨w.heap.size + 1, 0, none⟩ (.int .i64 K)) from TS.tb (TB.set wF1 0 _) (by simp))
      have HQG := Lib.hid (show (wF1.setCell ⟨w.heap.size + 1, 0, none⟩ (.int .i64 K)).heap[w.heap.size + 1]? = some (.cells #[.int .i64 K, .int .u32 (nb n'), .slice B y.length d] 25 (0, 0)) from by
        rw [heap_setCell_same _ _ 0 _ _ _ HQF.out]; rfl)
      have HE2 := Lib.hid (show TS [w.heap.size + 1] (wF1.setCell ⟨w.heap.size + 1, 0, none⟩ (.int .i64 K)) ((wF1.setCell ⟨w.heap.size + 1, 0, none⟩ (.int .i64 K)).setCell ⟨w.heap.size + 1, 1, none⟩ (.int .u32 (nb n))) from TS.tb (TB.set _ 1 _) (by simp))
      (refine sch_store (o := ?_) (at_of hops.out ?_) ?_ 3 (.tmp 34) (.tmp 31) ?_ ?_ ⟨w.heap.size + 1, 0, none⟩ (.int .i64 K) ?_ ?_ ?_ HE1.out ?_; rotate_left 1; (focus (simp only [List.getElem?_toArray, List.getElem?_cons_zero, List.getElem?_cons_succ]; rfl)); (focus (rw [hops.out]; rfl)); (focus rfl); (focus rfl); (focus rfl); (focus rfl); (focus (go_simp)))
      clear q0 q1
      have q0 := (prow3 HQG.out).2.1
      have q1 := frozen_row _ HQG.out 1
      repeat (refine sch_take (o := ?_) (v := ?_) (a' := ?_) (at_of hops.out ?_) ?_ (fun W hW => ?_) ?_ ?_; rotate_left 3; (focus (simp only [List.getElem?_toArray, List.getElem?_cons_zero, List.getElem?_cons_succ]; rfl)); (focus (rw [hops.out]; rfl)); (focus (go_simp; with_reducible rfl)); (focus (simp only [Act.put, List.setIfInBounds_toArray, List.set_cons_zero, List.set_cons_succ]; rfl)))
      (refine sch_store (o := ?_) (at_of hops.out ?_) ?_ 22 (.tmp 35) (.tmp 33) ?_ ?_ ⟨w.heap.size + 1, 1, none⟩ (.int .u32 (nb n)) ?_ ?_ ?_ HE2.out ?_; rotate_left 1; (focus (simp only [List.getElem?_toArray, List.getElem?_cons_zero, List.getElem?_cons_succ]; rfl)); (focus (rw [hops.out]; rfl)); (focus rfl); (focus rfl); (focus rfl); (focus rfl); (focus (go_simp)))
      refine sch_done ?_
      clear q0 q1
      have HQ2 := Lib.hid (show ((wF1.setCell ⟨w.heap.size + 1, 0, none⟩ (.int .i64 K)).setCell ⟨w.heap.size + 1, 1, none⟩ (.int .u32 (nb n))).heap[w.heap.size + 1]? = some (.cells #[.int .i64 K, .int .u32 (nb n), .slice B y.length d] 25 (0, 0)) from by
        rw [heap_setCell_same _ _ 1 _ _ _ HQG.out]; rfl)
      have HT2 := Lib.hid (HE1.out.then HE2.out)
      have HF2 := Lib.hid (HFF.out.ts HT2.out (by simp))
      have HP2 := Lib.hid ((HT2.out.block _ (Array.getElem?_eq_some_iff.1 HPF.out).1 (by simp)).trans HPF.out)
      generalize (wF1.setCell ⟨w.heap.size + 1, 0, none⟩ (.int .i64 K)).setCell ⟨w.heap.size + 1, 1, none⟩ (.int .u32 (nb n)) = w2 at *
      clear hops HF HD HFF HPF HQF HPK HE1 HE2 HQG HT2 HF1 HP1 HQ1
      have hcx := pg_Bytes K n x A c w2 (by have := HLX.out; omega) (HF2.out.rd HRX.out)
      have hoy : pgOk K y = pgOk K x := by
        rw [Bool.eq_iff_iff, pgOk_iff, pgOk_iff]
        have := HLX.out; have := HLY.out
        constructor <;> (intro h; omega)
      by_cases hok : pgOk K x = true
      · rw [hok] at hoy
        obtain ⟨xas, has⟩ : ∃ xas, xas = pgBytes (BitVec.ofInt 8 K) n x := ⟨_, rfl⟩
        obtain ⟨ys, hys⟩ : ∃ ys, ys = pgBytes (BitVec.ofInt 8 K) n y := ⟨_, rfl⟩
        have HAL := Lib.hid (show xas.length = 4096 from by rw [has]; exact pgBytes_len _ _ HLX.out)
        have HYL := Lib.hid (show ys.length = 4096 from by rw [hys]; exact pgBytes_len _ _ HLY.out)
        have HAR := Lib.hid (show pgR xas = ((K, n, pgPad x), 0) from by rw [has]; exact pgR_bytes hok)
        have HYR := Lib.hid (show pgR ys = ((K, n, pgPad y), 0) from by rw [hys]; exact pgR_bytes hoy)
        rw [show pgB K n x = (xas, 0) from by unfold pgB; rw [if_pos hok, has]] at hcx
        have HYB := Lib.hid (show pgB K n y = (ys, 0) from by unfold pgB; rw [if_pos hoy, hys])
        have HC := Lib.hid hcx
        clear hcx has hys hok hoy
        obtain ⟨q0, q1, q2⟩ := prow3 HP2.out
        go_wp2_with fail
        clear q0 q1 q2
        refine HC.out.mono ?_
        rintro e w3 ⟨A9, c9, rfl, ho, hb⟩
        simp only at ho
        rw [HAL.out] at ho ⊢
        have hi := Own.info ho
        have HC9 := Lib.hid (show 4096 ≤ c9 ∧ c9 ≤ maxLen from ⟨by rw [← HAL.out]; exact hi.1, hi.2.1⟩)
        have HR9 := Lib.hid hi.2.2.1
        have HF3 := Lib.hid (HF2.out.trans hb)
        have HP3 := Lib.hid ((hb.block _ (Array.getElem?_eq_some_iff.1 HP2.out).1).trans HP2.out)
        have HQ3 := Lib.hid ((hb.block _ (Array.getElem?_eq_some_iff.1 HQ2.out).1).trans HQ2.out)
        have hcy := pg_Bytes K n y B d w3 (by have := HLY.out; omega) (HF3.out.rd HRY.out)
        rw [HYB.out] at hcy
        have HC3 := Lib.hid hcy
        clear hcy ho hb hi HC HF2 HP2 HQ2
        obtain ⟨q0, q1, q2⟩ := prow3 HQ3.out
        go_wp2_with fail
        clear q0 q1 q2
        refine HC3.out.mono ?_
        rintro e w4 ⟨A11, c11, rfl, ho, hb⟩
        simp only at ho
        rw [HYL.out] at ho ⊢
        have hi := Own.info ho
        have HC11 := Lib.hid (show 4096 ≤ c11 ∧ c11 ≤ maxLen from ⟨by rw [← HYL.out]; exact hi.1, hi.2.1⟩)
        have HR11 := Lib.hid hi.2.2.1
        have HR94 := Lib.hid (hb.rd HR9.out)
        have HF4 := Lib.hid (HF3.out.trans hb)
        have HP4 := Lib.hid ((hb.block _ (Array.getElem?_eq_some_iff.1 HP3.out).1).trans HP3.out)
        have HQ4 := Lib.hid ((hb.block _ (Array.getElem?_eq_some_iff.1 HQ3.out).1).trans HQ3.out)
        clear ho hb hi HC3 HF3 HP3 HQ3 HR9
        obtain ⟨i, hi, hil⟩ := pg_pickN za 8 (by omega)
        obtain ⟨j, hj, hjl⟩ := pg_pickN zb 513 (by omega)
        obtain ⟨m, hm⟩ : ∃ m, m = 512 * i + j := ⟨_, rfl⟩
        have HM := Lib.hid (show m ≤ 4096 from by omega)
        have hpi := kit_Pick za 8 w4 (by omega) (by omega)
        have hpj := kit_Pick zb 513 w4 (by omega) (by omega)
        rw [show pick za 8 = (i : Int) from hi] at hpi
        rw [show pick zb 513 = (j : Int) from hj] at hpj
        have HPI := Lib.hid hpi
        have HPJ := Lib.hid hpj
        have hw1 : IntKind.i64.wrap (512 * (i : Int)) = 512 * (i : Int) := by rw [IntKind.wrap_i64]; omega
        have hw2 : IntKind.i64.wrap (512 * (i : Int) + (j : Int)) = (m : Int) := by rw [IntKind.wrap_i64]; omega
        clear hpi hpj hi hj hil hjl hm
        go_wp2_with fail
        refine HPI.out.mono ?_
        rintro e w5 ⟨rfl, rfl⟩
        go_wp2_with fail
        refine HPJ.out.mono ?_
        rintro e w5 ⟨rfl, rfl⟩
        go_wp2_with fail
        clear hw1 hw2 HPI HPJ
        have hch := cut_hi A11 c11 ys m (by rw [HYL.out]; exact HM.out) (by rw [HYL.out]; exact HC11.out.1)
        obtain ⟨A67, hcl, hcr, -⟩ := cut_lo A9 c9 xas m (by rw [HAL.out]; exact HM.out) (by rw [HAL.out]; exact HC9.out.1)
        rw [HYL.out] at hch
        rw [HAL.out] at hcl
        have HCH := Lib.hid hch
        have HCL := Lib.hid hcl
        have HR67 := Lib.hid (hcr _ HR94.out)
        clear hch hcl hcr
        obtain ⟨W1, hW1⟩ : ∃ W1 : World, W1 = w4 := ⟨_, rfl⟩
        rw [← hW1]
        refine region_sch (E := Below (W1.heap.size)) ((0, true) :: (1, true) :: (2, true) :: (4, true) :: (5, true) :: (6, true) :: (3, false) :: (7, false) :: (8, true) :: []) (by kernel_rfl) (Below.refl _) (fun _ _ _ h k => Below.trans h k) (fun _ _ d _ _ h => by cases d <;> exact h) (by kernel_rfl) ?_
        intro ops hops0
        have hops := Lib.hid hops0
        clear hops0
        have HF : Below (W1.heap.size) W1 W1.drew := (Below.refl _ _).drew
        generalize W1.drew = wF1 at *
        have HFW := Lib.hid (show FB w4 wF1 from by rw [← hW1]; exact HF)
        clear hW1
        repeat (refine sch_take (o := ?_) (v := ?_) (a' := ?_) (at_of hops.out ?_) ?_ (fun W hW => ?_) ?_ ?_; rotate_left 3; (focus (simp only [List.getElem?_toArray, List.getElem?_cons_zero, List.getElem?_cons_succ]; rfl)); (focus (rw [hops.out]; rfl)); (focus (have q1 := HCH.out W; have q2 := HCL.out W; go_simp; with_reducible rfl)); (focus (simp only [Act.put, List.setIfInBounds_toArray, List.set_cons_zero, List.set_cons_succ]; rfl)))
        have HTL := Lib.hid (show (ys.take m).length = m from by rw [List.length_take, HYL.out]; have := HM.out; omega)
        have hko := kit_Own (ys.take m) A11 c11 wF1 (by rw [HTL.out]; have := HM.out; have := HC11.out.1; omega) (by rw [HTL.out]; have := HM.out; omega) (HFW.out.rd (HR11.out.take m))
        rw [HTL.out] at hko
        have HKO := Lib.hid hko
        have HLE := Lib.hid (show W1.heap.size ≤ wF1.heap.size from HF.size)
        clear hko HF
        (refine sch_call (o := ?_) (f := ?_) (args := ?_) (at_of hops.out ?_) ?_ ?_ ?_; rotate_left 3; (focus (simp only [List.getElem?_toArray, List.getElem?_cons_zero, List.getElem?_cons_succ]; rfl)); (focus (rw [hops.out]; rfl)); (focus (go_simp; constructor <;> with_reducible rfl)); (first | ((with_reducible refine HKO.out.mono ?_); rintro e w6 ⟨A64, c64, rfl, ho, hb⟩; refine ⟨_, rfl, Below.mono hb HLE.out, ?_⟩; intro a' ha'; simp only [Act.put, List.setIfInBounds_toArray, List.set_cons_zero, List.set_cons_succ] at ha'; subst ha')))
        have HO64 := Lib.hid ho
        have HF6 := Lib.hid (show FB w4 w6 from HFW.out.call hb)
        have HLE6 := Lib.hid (show wF1.heap.size ≤ w6.heap.size from hb.size)
        clear ho hb HKO
        have HDL := Lib.hid (show (xas.drop m).length = 4096 - m from by rw [List.length_drop, HAL.out])
        (refine sch_append_bytes (o := ?_) (at_of hops.out ?_) ?_ (.tmp 64) (.tmp 67) ?_ wF1.heap.size _ (ys.take m) HO64.out ?_ A67 (4096 - m) (c9 - m) (xas.drop m) HDL.out.symm ?_ (HF6.out.rd HR67.out) (by rw [HDL.out, HTL.out]; have := HM.out; omega) HLE6.out ?_; rotate_left 1; (focus (simp only [List.getElem?_toArray, List.getElem?_cons_zero, List.getElem?_cons_succ]; rfl)); (focus (rw [hops.out]; rfl)); (focus rfl); (focus rfl); (focus rfl))
        intro v' w7 ho hg _
        have hbs := OwnV.base HO64.out
        refine ⟨(Below.refl _ w6).grown hg (by have := HLE.out; have := HLE6.out; omega) (fun k hk => by have := hbs k hk; have := HLE.out; omega), ?_⟩
        intro a' ha'
        simp only [Act.put, List.setIfInBounds_toArray, List.set_cons_zero, List.set_cons_succ] at ha'
        subst ha'
        have HF7 := Lib.hid (show FB w7 w7 → FB w4 w7 from fun _ => HF6.out.grown hg (fun k hk => by have := (hbs k hk).1; have := HFW.out.le; omega))
        have HF7 := Lib.hid (HF7.out (FB.refl _))
        obtain ⟨zs, hzs⟩ : ∃ zs, zs = ys.take m ++ xas.drop m := ⟨_, rfl⟩
        have HZL := Lib.hid (show zs.length = 4096 from by rw [hzs, List.length_append, HTL.out, HDL.out]; have := HM.out; omega)
        rw [← hzs] at ho
        obtain ⟨A14, c14, rfl, hl14, hm14, hr14, -⟩ := Own.form ho
        rw [HZL.out] at hl14 ⊢
        have HR14 := Lib.hid hr14
        have HC14 := Lib.hid (And.intro hl14 hm14)
        clear ho hg hbs hl14 hm14 hr14 hzs HO64 HR67 HCH HCL
        repeat (refine sch_take (o := ?_) (v := ?_) (a' := ?_) (at_of hops.out ?_) ?_ (fun W hW => ?_) ?_ ?_; rotate_left 3; (focus (simp only [List.getElem?_toArray, List.getElem?_cons_zero, List.getElem?_cons_succ]; rfl)); (focus (rw [hops.out]; rfl)); (focus (go_simp; with_reducible rfl)); (focus (simp only [Act.put, List.setIfInBounds_toArray, List.set_cons_zero, List.set_cons_succ]; rfl)))
        refine sch_done ?_
        clear hops
        have HFE := Lib.hid (HF4.out.trans HF7.out)
        have HP7 := Lib.hid ((HF7.out.block _ (Array.getElem?_eq_some_iff.1 HP4.out).1).trans HP4.out)
        have HQ7 := Lib.hid ((HF7.out.block _ (Array.getElem?_eq_some_iff.1 HQ4.out).1).trans HQ4.out)
        have HRA := Lib.hid (HF7.out.rd HR94.out)
        have HRB := Lib.hid (HF7.out.rd HR11.out)
        have hrd := pg_Read zs A14 c14 w7 (by rw [HZL.out]; omega) (by rw [HZL.out]; exact HC14.out.1) HC14.out.2 HR14.out
        rw [HZL.out] at hrd
        obtain ⟨r, hrr⟩ : ∃ r, r = pgR zs := ⟨_, rfl⟩
        rw [← hrr] at hrd
        obtain ⟨⟨K1, n1, x1⟩, er⟩ := r
        have HRR := Lib.hid hrr
        have HC2 := Lib.hid hrd
        clear hrd hrr HFW HF6 HF7 HLE HLE6 HP4 HQ4 HR94 HR11 HF4
        go_wp2_with fail
        refine HC2.out.mono ?_
        rintro e w8 ⟨A5, c5, rfl, hr5, hc5, hm5, hb⟩
        simp only at hr5 hc5
        have hbb := hb.alloc (.cells #[.int .i64 K1, .int .u32 (nb n1), .slice A5 x1.length c5] 25)
        have HF8 := Lib.hid (HFE.out.trans hbb)
        have HP8 := Lib.hid ((hbb.block _ (Array.getElem?_eq_some_iff.1 HP7.out).1).trans HP7.out)
        have HQ8 := Lib.hid ((hbb.block _ (Array.getElem?_eq_some_iff.1 HQ7.out).1).trans HQ7.out)
        have H98 := Lib.hid (heap_alloc_new w8 (.cells #[.int .i64 K1, .int .u32 (nb n1), .slice A5 x1.length c5] 25))
        have HR5 := Lib.hid (((FB.refl w8).alloc (.cells #[.int .i64 K1, .int .u32 (nb n1), .slice A5 x1.length c5] 25)).rd hr5)
        have HC5 := Lib.hid (And.intro hc5 hm5)
        have HRA8 := Lib.hid (hbb.rd HRA.out)
        have HRB8 := Lib.hid (hbb.rd HRB.out)
        have HRZ8 := Lib.hid (hbb.rd HR14.out)
        clear hr5 hc5 hm5 hb hbb HC2 HFE HP7 HQ7 HRA HRB HR14
        by_cases her : er = 0
        · subst her
          have hcr := r5_Read zs A14 c14 (w8.alloc (.cells #[.int .i64 K1, .int .u32 (nb n1), .slice A5 x1.length c5] 25)) (by rw [HZL.out]; omega) (by rw [HZL.out]; exact HC14.out.1) HC14.out.2 HRZ8.out
          rw [HZL.out, ← HRR.out] at hcr
          have HC3 := Lib.hid hcr
          clear hcr
          go_wp2_with fail
          generalize w8.alloc _ = w9 at *
          generalize w8.heap.size = g9 at *
          refine HC3.out.mono ?_
          rintro e w10 ⟨A16, c16, rfl, -, -, -, hb⟩
          have hbb := hb.alloc (.cells #[.int .i64 K1, .int .u32 (nb n1), .slice A16 x1.length c16] 25)
          have HFX := Lib.hid (HF8.out.trans hbb)
          have HPX := Lib.hid ((hbb.block _ (Array.getElem?_eq_some_iff.1 HP8.out).1).trans HP8.out)
          have HQX := Lib.hid ((hbb.block _ (Array.getElem?_eq_some_iff.1 HQ8.out).1).trans HQ8.out)
          have H9X := Lib.hid ((hbb.block _ (Array.getElem?_eq_some_iff.1 H98.out).1).trans H98.out)
          have HR5X := Lib.hid (hbb.rd HR5.out)
          have hs1 := run_string c14 (hbb.rd HRZ8.out)
          have hs2 := run_string c9 (hbb.rd HRA8.out)
          have hs3 := run_string c11 (hbb.rd HRB8.out)
          rw [HZL.out] at hs1
          rw [HAL.out] at hs2
          rw [HYL.out] at hs3
          have HX1 := Lib.hid (show x1.length ≤ 1000000000 from by
            have h1 := (pgR_ok HRR.out.symm).1
            unfold pgB at h1
            split at h1
            · rename_i ho; have := (pgOk_iff.1 ho).2.2; simp only at this; omega
            · have := congrArg Prod.snd h1; simp at this)
          by_cases hza : zs = xas
          · subst hza
            have hse : ((sb zs).toList == (sb zs).toList) = true := by simp
            have hrr := HRR.out
            rw [HAR.out] at hrr
            simp only [Prod.mk.injEq, and_true] at hrr
            obtain ⟨rfl, rfl, rfl⟩ := hrr
            have hcs := pg_Same K1 K1 n1 n1 (pgPad x) x A5 A c5 c _ HX1.out (by have := HLX.out; omega) HC5.out.1 HCX.out.1 HC5.out.2 HCX.out.2 HR5X.out (HFX.out.rd HRX.out)
            rw [show pgSame K1 n1 (pgPad x) K1 n1 x = true from by unfold pgSame; rw [trimz_pad]; simp] at hcs
            have HCS := Lib.hid hcs
            obtain ⟨q0, q1, q2⟩ := prow3 HPX.out
            obtain ⟨r0, r1, r2⟩ := prow3 H9X.out
            clear hb hbb hcs HC3
            go_wp2_with fail
            clear q0 q1 q2 r0 r1 r2 hs1 hs2 hs3
            refine HCS.out.mono ?_
            rintro e w11 ⟨rfl, hb⟩
            have HE := Lib.hid (HFX.out.trans hb)
            clear hb
            go_wp2
            go_ret
            exact ⟨rfl, HE.out⟩
          · have hse : ((sb zs).toList == (sb xas).toList) = false := by rw [sb_beq]; simpa using hza
            by_cases hzb : zs = ys
            · subst hzb
              have hse2 : ((sb zs).toList == (sb zs).toList) = true := by simp
              have hrr := HRR.out
              rw [HYR.out] at hrr
              simp only [Prod.mk.injEq, and_true] at hrr
              obtain ⟨rfl, rfl, rfl⟩ := hrr
              have hcs := pg_Same K1 K1 n1 n1 (pgPad y) y A5 B c5 d _ HX1.out (by have := HLY.out; omega) HC5.out.1 HCY.out.1 HC5.out.2 HCY.out.2 HR5X.out (HFX.out.rd HRY.out)
              rw [show pgSame K1 n1 (pgPad y) K1 n1 y = true from by unfold pgSame; rw [trimz_pad]; simp] at hcs
              have HCS := Lib.hid hcs
              obtain ⟨q0, q1, q2⟩ := prow3 HQX.out
              obtain ⟨r0, r1, r2⟩ := prow3 H9X.out
              clear hb hbb hcs HC3 hza
              go_wp2_with fail
              clear q0 q1 q2 r0 r1 r2 hs1 hs2 hs3
              refine HCS.out.mono ?_
              rintro e w11 ⟨rfl, hb⟩
              have HE := Lib.hid (HFX.out.trans hb)
              clear hb
              go_wp2
              go_ret
              exact ⟨rfl, HE.out⟩
            · have hse2 : ((sb zs).toList == (sb ys).toList) = false := by rw [sb_beq]; simpa using hzb
              clear hb hbb HC3 hza hzb
              go_wp2
              go_ret
              exact ⟨rfl, HFX.out⟩
        · have heb : (er != 0) = true := by simpa using her
          have hza : zs ≠ xas := fun h => her (by have := HRR.out; rw [h, HAR.out] at this; exact congrArg Prod.snd this)
          have hzb : zs ≠ ys := fun h => her (by have := HRR.out; rw [h, HYR.out] at this; exact congrArg Prod.snd this)
          have hse : ((sb zs).toList == (sb xas).toList) = false := by rw [sb_beq]; simpa using hza
          have hse2 : ((sb zs).toList == (sb ys).toList) = false := by rw [sb_beq]; simpa using hzb
          have hs1 := run_string c14 HRZ8.out
          have hs2 := run_string c9 HRA8.out
          have hs3 := run_string c11 HRB8.out
          rw [HZL.out] at hs1
          rw [HAL.out] at hs2
          rw [HYL.out] at hs3
          clear her hza hzb
          go_wp2
          go_ret
          exact ⟨rfl, HF8.out⟩
      · rw [show pgB K n x = ([], 2) from by unfold pgB; rw [if_neg hok]] at hcx
        have HYB := Lib.hid (show pgB K n y = ([], 2) from by unfold pgB; rw [hoy, if_neg hok])
        have HC := Lib.hid hcx
        clear hcx hok hoy
        obtain ⟨q0, q1, q2⟩ := prow3 HP2.out
        go_wp2_with fail
        clear q0 q1 q2
        refine HC.out.mono ?_
        rintro e w3 ⟨A9, c9, rfl, -, hb⟩
        have HF3 := Lib.hid (HF2.out.trans hb)
        have HQ3 := Lib.hid ((hb.block _ (Array.getElem?_eq_some_iff.1 HQ2.out).1).trans HQ2.out)
        have hcy := pg_Bytes K n y B d w3 (by have := HLY.out; omega) (HF3.out.rd HRY.out)
        rw [HYB.out] at hcy
        have HC3 := Lib.hid hcy
        clear hcy hb HC HF2 HP2 HQ2
        obtain ⟨q0, q1, q2⟩ := prow3 HQ3.out
        go_wp2_with fail
        clear q0 q1 q2
        refine HC3.out.mono ?_
        rintro e w4 ⟨A11, c11, rfl, -, hb⟩
        have HE := Lib.hid (HF3.out.trans hb)
        clear hb HC3
        go_wp2
        go_ret
        exact ⟨rfl, HE.out⟩
end Go.Proofs.YtihljjfnjclefaaDoor
