/- The walk through PageCalls. -/
import Derived.Test.YtihljjfnjclefaaDoorPgL
import Derived.Test.YtihljjfnjclefaaDoorRgD
set_option linter.unusedVariables false
set_option linter.unusedSimpArgs false
namespace Go.Proofs.YtihljjfnjclefaaDoor
open Go.ChangeShapes Go.WideShapes Go.ChangeAt Go.RowKit
attribute [local go_sem] nb_nonneg nb_lt8 nb_lt64
set_option maxRecDepth 100000

theorem pgB_len {K : Int} {n : BitVec 32} {x ys : List Byte} {e : Int} (h : pgB K n x = (ys, e)) : (e = 0 ∧ ys.length = 4096) ∨ (e ≠ 0 ∧ ys = []) := by
  unfold pgB at h
  split at h
  · rename_i ho
    cases h
    exact .inl ⟨rfl, pgBytes_len _ _ (pgOk_iff.1 ho).2.2⟩
  · cases h; exact .inr ⟨by decide, rfl⟩
set_option maxHeartbeats 8000000 in
theorem pageCalls_walk (K : Int) (n : BitVec 32) (A : Option Addr) (c : Nat) (x : List Byte) (K' : Int) (n' : BitVec 32) (B : Option Addr) (d : Nat) (y : List Byte) (C : Option Addr) (c3 : Nat) (b : List Byte) (at_ : Int) (by_ : BitVec 8) (w : World) (hc : x.length ≤ c) (hm : c ≤ maxLen) (hr : Rd w A x) (hK : -9223372036854775808 ≤ K ∧ K ≤ 9223372036854775807) (hc2 : y.length ≤ d) (hm2 : d ≤ maxLen) (hr2 : Rd w B y) (hK2 : -9223372036854775808 ≤ K' ∧ K' ≤ 9223372036854775807) (hc3 : b.length ≤ c3) (hm3 : c3 ≤ maxLen) (hr3 : Rd w C b) (hat : -9223372036854775808 ≤ at_ ∧ at_ ≤ 9223372036854775807) :
    Calls Tryd.prog 4 #[.agg #[.int .i64 K, .int .u32 (nb n), .slice A x.length c], .agg #[.int .i64 K', .int .u32 (nb n'), .slice B y.length d], .slice C b.length c3, .int .i64 at_, .int .u8 (nb by_)] w fun e w' => e = .returned (.bool true) ∧ Below w.heap.size w w' := by
  obtain ⟨hf, hb1, hb2, -⟩ := pbox22 w (.int .i64 K) (.int .u32 (nb n)) (.slice A x.length c) (.int .i64 K') (.int .u32 (nb n')) (.slice B y.length d)
  have HF0 := Lib.hid hf
  have HP0 := Lib.hid hb1
  have HQ0 := Lib.hid hb2
  have HRX := Lib.hid hr
  have HRY := Lib.hid hr2
  have HRB := Lib.hid hr3
  have HCX := Lib.hid (And.intro hc hm)
  have HCY := Lib.hid (And.intro hc2 hm2)
  have HCB := Lib.hid (And.intro hc3 hm3)
  clear hf hb1 hb2 hr hr2 hc hm hc2 hm2 hK hK2 hc3 hm3 hr3 hat
  go_enter Tryd.func4, Tryd.ntmps4
  go_wp2_with fail
  obtain ⟨W1, hW1⟩ : ∃ W1 : World, W1 = (w.alloc (.cells #[.int .i64 K, .int .u32 (nb n), .slice A x.length c] 25)).alloc (.cells #[.int .i64 K', .int .u32 (nb n'), .slice B y.length d] 25) := ⟨_, rfl⟩
  simp only [← hW1] at HF0 HP0 HQ0 ⊢
  clear hW1
  refine (pg_lives _).mono ?_
  rintro e w1 ⟨rfl, hb⟩
  have HF1 := Lib.hid (HF0.out.trans hb)
  have HP1 := Lib.hid ((hb.block _ (Array.getElem?_eq_some_iff.1 HP0.out).1).trans HP0.out)
  have HQ1 := Lib.hid ((hb.block _ (Array.getElem?_eq_some_iff.1 HQ0.out).1).trans HQ0.out)
  clear hb HF0 HP0 HQ0
  obtain ⟨q0, q1, q2⟩ := prow3 HP1.out
  obtain ⟨r0, r1, r2⟩ := prow3 HQ1.out
  by_cases h1 : 5000 < x.length
  · have hz : 5000 < (x.length : Int) := by omega
    go_wp2
    go_ret
    exact ⟨rfl, HF1.out⟩
  · have hz : ¬ 5000 < (x.length : Int) := by omega
    by_cases h2 : 5000 < y.length
    · have hz2 : 5000 < (y.length : Int) := by omega
      go_wp2
      go_ret
      exact ⟨rfl, HF1.out⟩
    · have hz2 : ¬ 5000 < (y.length : Int) := by omega
      by_cases h3 : 5000 < b.length
      · have hz3 : 5000 < (b.length : Int) := by omega
        go_wp2
        go_ret
        exact ⟨rfl, HF1.out⟩
      · have hz3 : ¬ 5000 < (b.length : Int) := by omega
        have HLX := Lib.hid (show x.length ≤ 5000 from by omega)
        have HLY := Lib.hid (show y.length ≤ 5000 from by omega)
        have HLB := Lib.hid (show b.length ≤ 5000 from by omega)
        clear h1 h2 h3
        generalize hrb : pgB K n x = rb
        obtain ⟨ys, ey⟩ := rb
        have HCX1 := Lib.hid (fun W (h : FB w W) => by
          have q := pg_Bytes K n x A c W (by have := HLX.out; omega) (h.rd HRX.out)
          rw [hrb] at q
          exact q)
        have HCX2 := Lib.hid (fun W (h : FB w W) => by
          have q := r5_Bytes K n x A c W (by have := HLX.out; omega) (h.rd HRX.out)
          rw [hrb] at q
          exact q)
        have HYY := Lib.hid (pgB_len hrb)
        clear hrb
        go_wp2_with fail
        clear q0 q1 q2 r0 r1 r2 hz hz2 hz3
        refine (HCX1.out _ HF1.out).mono ?_
        rintro e w2 ⟨A11, c11, rfl, ho, hb⟩
        simp only at ho
        have HO11 := Lib.hid ho
        have HF2 := Lib.hid (HF1.out.trans hb)
        have HP2 := Lib.hid ((hb.block _ (Array.getElem?_eq_some_iff.1 HP1.out).1).trans HP1.out)
        have HQ2 := Lib.hid ((hb.block _ (Array.getElem?_eq_some_iff.1 HQ1.out).1).trans HQ1.out)
        clear ho hb HF1 HP1 HQ1 HCX1
        obtain ⟨q0, q1, q2⟩ := prow3 HP2.out
        go_wp2_with fail
        clear q0 q1 q2
        refine (HCX2.out _ HF2.out).mono ?_
        rintro e w3 ⟨A13, c13, rfl, ho, hb⟩
        simp only at ho
        have HO13 := Lib.hid ho
        have HF3 := Lib.hid (HF2.out.trans hb)
        have HP3 := Lib.hid ((hb.block _ (Array.getElem?_eq_some_iff.1 HP2.out).1).trans HP2.out)
        have HQ3 := Lib.hid ((hb.block _ (Array.getElem?_eq_some_iff.1 HQ2.out).1).trans HQ2.out)
        have HR11 := Lib.hid (hb.rd (Own.info HO11.out).2.2.1)
        have HG13 := Lib.hid (show w.heap.size ≤ w2.heap.size from HF2.out.le)
        clear ho hb HF2 HP2 HQ2 HCX2 HO11
        have HS1 := Lib.hid (fun W (h : FB w3 W) => pg_Same K K' n n' x y A B c d W (by have := HLX.out; omega) (by have := HLY.out; omega) HCX.out.1 HCY.out.1 HCX.out.2 HCY.out.2 ((HF3.out.trans h).rd HRX.out) ((HF3.out.trans h).rd HRY.out))
        have HS2 := Lib.hid (fun W (h : FB w3 W) => r5_Same K K' n n' x y A B c d W (by have := HLX.out; omega) (by have := HLY.out; omega) HCX.out.1 HCY.out.1 HCX.out.2 HCY.out.2 ((HF3.out.trans h).rd HRX.out) ((HF3.out.trans h).rd HRY.out))
        have HK1 := Lib.hid (fun W (h : FB w3 W) => pg_Kind b C c3 W (by have := HLB.out; omega) HCB.out.1 HCB.out.2 ((HF3.out.trans h).rd HRB.out))
        have HK2 := Lib.hid (fun W (h : FB w3 W) => r5_Kind b C c3 W (by have := HLB.out; omega) HCB.out.1 HCB.out.2 ((HF3.out.trans h).rd HRB.out))
        generalize pgSame K n x K' n' y = S at *
        generalize (pgR b).1.1 = kb at *
        have hse : ((sb ys).toList == (sb ys).toList) = true := by simp
        have hee : (ey != ey) = false := by simp
        have hss : (S != S) = false := by simp
        have hkk : (kb != kb) = false := by simp
        go_upto_region 7 with fail
        obtain ⟨W0, hW0⟩ : ∃ W0 : World, W0 = w3 := ⟨_, rfl⟩
        rw [← hW0]
        refine region_sch (E := FB) ((0, true) :: (1, true) :: (2, true) :: (3, true) :: (4, true) :: (5, true) :: (6, true) :: (7, true) :: (8, true) :: (9, true) :: (10, true) :: (11, true) :: (12, true) :: (14, true) :: (15, true) :: (13, false) :: (16, false) :: (17, true) :: (18, true) :: (19, true) :: (20, true) :: (22, true) :: (21, false) :: (23, false) :: (24, true) :: (25, true) :: []) (by kernel_rfl) FB.refl fb_trans (fun _ _ d _ _ h => by cases d <;> exact h) (by kernel_rfl) ?_
        intro ops hops0
        have hops := Lib.hid hops0
        clear hops0
        have HF : FB W0 W0.drew := (FB.refl _).drew
        generalize W0.drew = wF at *
        have HFq := Lib.hid (show FB w3 wF from by rw [← hW0]; exact HF)
        clear hW0 HF
        have K1 := Lib.hid (prow3 ((HFq.out.block _ (Array.getElem?_eq_some_iff.1 HP3.out).1).trans HP3.out))
        have K2 := Lib.hid (prow3 ((HFq.out.block _ (Array.getElem?_eq_some_iff.1 HQ3.out).1).trans HQ3.out))
        have HSA := Lib.hid (fun W (h : FB wF W) => run_string c11 ((HFq.out.trans h).rd HR11.out))
        have HSB := Lib.hid (fun W (h : FB wF W) => run_string c13 ((HFq.out.trans h).rd (Own.info HO13.out).2.2.1))
        have HF := FB.refl wF
        repeat (refine sch_take (o := ?_) (v := ?_) (a' := ?_) (at_of hops.out ?_) ?_ (fun W hW => ?_) ?_ ?_; rotate_left 3; (focus (simp only [List.getElem?_toArray, List.getElem?_cons_zero, List.getElem?_cons_succ]; rfl)); (focus (rw [hops.out]; rfl)); (focus (have u1 := FB.cell hW K1.out.1; have u2 := FB.cell hW K1.out.2.1; have u3 := FB.cell hW K1.out.2.2; have u4 := FB.cell hW K2.out.1; have u5 := FB.cell hW K2.out.2.1; have u6 := FB.cell hW K2.out.2.2; have u7 := HSA.out W hW; have u8 := HSB.out W hW; go_simp; with_reducible rfl)); (focus (simp only [Act.put, List.setIfInBounds_toArray, List.set_cons_zero, List.set_cons_succ]; rfl)))
        (refine sch_call (o := ?_) (f := ?_) (args := ?_) (at_of hops.out ?_) ?_ ?_ ?_; rotate_left 3; (focus (simp only [List.getElem?_toArray, List.getElem?_cons_zero, List.getElem?_cons_succ]; rfl)); (focus (rw [hops.out]; rfl)); (focus (go_simp; constructor <;> with_reducible rfl)); (first | ((with_reducible refine (HS1.out _ (HFq.out.trans HF)).mono ?_); rintro e w' ⟨rfl, hb⟩; refine ⟨_, rfl, hb, ?_⟩; intro a' ha'; simp only [Act.put, List.setIfInBounds_toArray, List.set_cons_zero, List.set_cons_succ] at ha'; subst ha'; replace HF := HF.call hb; clear hb)))
        repeat (refine sch_take (o := ?_) (v := ?_) (a' := ?_) (at_of hops.out ?_) ?_ (fun W hW => ?_) ?_ ?_; rotate_left 3; (focus (simp only [List.getElem?_toArray, List.getElem?_cons_zero, List.getElem?_cons_succ]; rfl)); (focus (rw [hops.out]; rfl)); (focus (go_simp; with_reducible rfl)); (focus (simp only [Act.put, List.setIfInBounds_toArray, List.set_cons_zero, List.set_cons_succ]; rfl)))
        (refine sch_call (o := ?_) (f := ?_) (args := ?_) (at_of hops.out ?_) ?_ ?_ ?_; rotate_left 3; (focus (simp only [List.getElem?_toArray, List.getElem?_cons_zero, List.getElem?_cons_succ]; rfl)); (focus (rw [hops.out]; rfl)); (focus (go_simp; constructor <;> with_reducible rfl)); (first | ((with_reducible refine (HS2.out _ (HFq.out.trans HF)).mono ?_); rintro e w'' ⟨rfl, hb⟩; refine ⟨_, rfl, hb, ?_⟩; intro a' ha'; simp only [Act.put, List.setIfInBounds_toArray, List.set_cons_zero, List.set_cons_succ] at ha'; subst ha'; replace HF := HF.call hb; clear hb)))
        repeat (refine sch_take (o := ?_) (v := ?_) (a' := ?_) (at_of hops.out ?_) ?_ (fun W hW => ?_) ?_ ?_; rotate_left 3; (focus (simp only [List.getElem?_toArray, List.getElem?_cons_zero, List.getElem?_cons_succ]; rfl)); (focus (rw [hops.out]; rfl)); (focus (go_simp; with_reducible rfl)); (focus (simp only [Act.put, List.setIfInBounds_toArray, List.set_cons_zero, List.set_cons_succ]; rfl)))
        (refine sch_call (o := ?_) (f := ?_) (args := ?_) (at_of hops.out ?_) ?_ ?_ ?_; rotate_left 3; (focus (simp only [List.getElem?_toArray, List.getElem?_cons_zero, List.getElem?_cons_succ]; rfl)); (focus (rw [hops.out]; rfl)); (focus (go_simp; constructor <;> with_reducible rfl)); (first | ((with_reducible refine (HK1.out _ (HFq.out.trans HF)).mono ?_); rintro e w4 ⟨rfl, hb⟩; refine ⟨_, rfl, hb, ?_⟩; intro a' ha'; simp only [Act.put, List.setIfInBounds_toArray, List.set_cons_zero, List.set_cons_succ] at ha'; subst ha'; replace HF := HF.call hb; clear hb)))
        repeat (refine sch_take (o := ?_) (v := ?_) (a' := ?_) (at_of hops.out ?_) ?_ (fun W hW => ?_) ?_ ?_; rotate_left 3; (focus (simp only [List.getElem?_toArray, List.getElem?_cons_zero, List.getElem?_cons_succ]; rfl)); (focus (rw [hops.out]; rfl)); (focus (go_simp; with_reducible rfl)); (focus (simp only [Act.put, List.setIfInBounds_toArray, List.set_cons_zero, List.set_cons_succ]; rfl)))
        (refine sch_call (o := ?_) (f := ?_) (args := ?_) (at_of hops.out ?_) ?_ ?_ ?_; rotate_left 3; (focus (simp only [List.getElem?_toArray, List.getElem?_cons_zero, List.getElem?_cons_succ]; rfl)); (focus (rw [hops.out]; rfl)); (focus (go_simp; constructor <;> with_reducible rfl)); (first | ((with_reducible refine (HK2.out _ (HFq.out.trans HF)).mono ?_); rintro e wt ⟨rfl, hb⟩; refine ⟨_, rfl, hb, ?_⟩; intro a' ha'; simp only [Act.put, List.setIfInBounds_toArray, List.set_cons_zero, List.set_cons_succ] at ha'; subst ha'; replace HF := HF.call hb; clear hb)))
        repeat (refine sch_take (o := ?_) (v := ?_) (a' := ?_) (at_of hops.out ?_) ?_ (fun W hW => ?_) ?_ ?_; rotate_left 3; (focus (simp only [List.getElem?_toArray, List.getElem?_cons_zero, List.getElem?_cons_succ]; rfl)); (focus (rw [hops.out]; rfl)); (focus (go_simp; with_reducible rfl)); (focus (simp only [Act.put, List.setIfInBounds_toArray, List.set_cons_zero, List.set_cons_succ]; rfl)))
        refine sch_done ?_
        have HFT := Lib.hid ((HF3.out.trans HFq.out).trans HF)
        have HO := Lib.hid (FB.own (HFq.out.trans HF) HO13.out)
        clear hops HF K1 K2 HSA HSB HS1 HS2 HK1 HK2 HF3 HP3 HQ3 HR11 HO13 HFq hse hee hss hkk
        rcases HYY.out with ⟨rfl, hyl⟩ | ⟨hey, rfl⟩
        · rw [hyl]
          have HYL := Lib.hid hyl
          have ho := HO.out
          rw [HYL.out] at ho
          obtain ⟨g13, rfl, hg1, -⟩ := OwnV.head0 ho (by rw [vbs_length, HYL.out]; omega)
          have HOY := Lib.hid ho
          have hi := Own.info ho
          obtain ⟨j, hj, hjl⟩ : ∃ j : Nat, pick at_ 4096 = (j : Int) ∧ j < 4096 := by
            have := pick_range at_ 4096 (by omega)
            exact ⟨(pick at_ 4096).toNat, by omega, by omega⟩
          have hjz : (j : Int) < 4096 := by omega
          have hpk := kit_Pick at_ 4096 wt (by omega) (by omega)
          rw [hj] at hpk
          have HCP := Lib.hid hpk
          have hji : j < ys.length := by rw [HYL.out]; exact hjl
          obtain ⟨s0, sf, sset⟩ := OwnV.cellset HOY.out (j := j) (by rw [vbs_length]; exact hji)
          rw [vbs_get ys j hji] at s0
          unfold vb at s0
          obtain ⟨yj, hyj⟩ : ∃ yj, yj = ys[j] := ⟨_, rfl⟩
          rw [← hyj] at s0
          have hxo := bits_xor8 yj by_
          obtain ⟨zs, hzs⟩ : ∃ zs, zs = ys.set j (ys[j] ^^^ by_) := ⟨_, rfl⟩
          have HZL := Lib.hid (show zs.length = 4096 from by rw [hzs, List.length_set, HYL.out])
          have HOZ := Lib.hid (show Own (wt.setCell ⟨g13, j, none⟩ (.int .u8 (nb (yj ^^^ by_)))) _ (.slice (some ⟨g13, 0, none⟩) 4096 c13) zs from by
            have q := sset (vb (yj ^^^ by_))
            unfold Own
            rw [hzs, show vbs (ys.set j (ys[j] ^^^ by_)) = (vbs ys).set j (vb (yj ^^^ by_)) from by unfold vbs; rw [List.map_set, hyj]]
            exact q)
          have HF6 := Lib.hid (HFT.out.set (p := ⟨g13, j, none⟩) (by have := HG13.out; simp; omega) (.int .u8 (nb (yj ^^^ by_))))
          clear hpk sset hzs hyj hj hjl hji ho hi hg1 hyl HO HOY
          go_wp2_with fail
          refine HCP.out.mono ?_
          rintro e w8 ⟨rfl, rfl⟩
          go_upto_region 11 with fail
          generalize wt.setCell ⟨g13, j, none⟩ (.int .u8 (nb (yj ^^^ by_))) = wt at *
          have HFT := HF6
          have HRZ := Lib.hid (Own.info HOZ.out).2.2.1
          have HZC := Lib.hid (show zs.length ≤ c13 ∧ c13 ≤ maxLen from ⟨(Own.info HOZ.out).1, (Own.info HOZ.out).2.1⟩)
          have HZ5 := Lib.hid (show zs.length ≤ 5000 from by rw [HZL.out]; omega)
          rw [← HZL.out]
          clear s0 sf hxo hjz HF6 HOZ HYL HCP
          generalize (some (⟨g13, 0, none⟩ : Addr)) = A13 at *
          go_wp2_with fail
          have HTF := Lib.hid (HFT.out.alloc (.cells #[.slice C b.length c3, .slice A13 zs.length c13] 23))
          have hg := heap_alloc_new wt (.cells #[.slice C b.length c3, .slice A13 zs.length c13] 23)
          have HEL := Lib.hid (show ∀ k : Nat, k < 2 → ∃ A' c' v, (wt.alloc (.cells #[.slice C b.length c3, .slice A13 zs.length c13] 23)).cell? ⟨wt.heap.size, k, none⟩ = some (.slice A' (v : List Byte).length c') ∧ v.length ≤ c' ∧ c' ≤ maxLen ∧ Rd (wt.alloc (.cells #[.slice C b.length c3, .slice A13 zs.length c13] 23)) A' v ∧ v.length ≤ 5000 from by
            intro k hk
            match k, hk with
            | 0, _ => exact ⟨C, c3, b, by rw [cell_of_row _ _ _ _ _ _ hg]; rfl, HCB.out.1, HCB.out.2, HTF.out.rd HRB.out, HLB.out⟩
            | 1, _ => exact ⟨A13, c13, zs, by rw [cell_of_row _ _ _ _ _ _ hg]; rfl, HZC.out.1, HZC.out.2, ((FB.refl wt).alloc _).rd HRZ.out, HZ5.out⟩)
          clear hg
          generalize wt.alloc _ = W at *
          generalize wt.heap.size = g at *
          go_loopw [90] (fun i wr => ∃ k : Nat, k ≤ 2 ∧ i = .int .i64 k ∧ Hid (FB W wr)) (fun i _ => 2 - (intOf i).toNat)
          case atStart => exact ⟨0, by omega, rfl, Lib.hid (FB.refl _)⟩
          case round =>
            obtain ⟨k, hk, rfl, HW⟩ := hrel
            by_cases hlt : k < 2
            · obtain ⟨A', c', v, hcell, hc', hm', hrd, hl5⟩ := HEL.out k hlt
              have hcr := HW.out.cell hcell
              have hz : (k : Int) < 2 := by omega
              have HK := Lib.hid hlt
              have hwk : IntKind.i64.wrap ((k : Int) + 1) = (k : Int) + 1 := by rw [IntKind.wrap_i64]; omega
              have HL := Lib.hid (show v.length ≤ 1000000000 from by omega)
              have HCV := Lib.hid (And.intro hc' hm')
              have HRV := Lib.hid (HW.out.rd hrd)
              have HC := Lib.hid (kit_Own v A' c' wr hc' (by omega) HRV.out)
              clear hcell hc' hm' hrd hl5 hlt hk
              go_wp2_with fail
              clear hcr
              refine HC.out.mono ?_
              rintro e wo ⟨Ao, co, rfl, ho, hb⟩
              have hi := Own.info ho
              have HF1 := Lib.hid (show FB wr wo from hb)
              have HC1 := Lib.hid (pg_Read v Ao co wo HL.out hi.1 hi.2.1 hi.2.2.1)
              obtain ⟨r, hrr⟩ : ∃ r, r = pgR v := ⟨_, rfl⟩
              rw [← hrr] at HC1
              obtain ⟨⟨K1, n1, x1⟩, er⟩ := r
              have HRR := Lib.hid hrr
              clear ho hb hi HC hrr
              go_wp2_with fail
              refine HC1.out.mono ?_
              rintro e wp ⟨A5, c5, rfl, hr5, hc5, hm5, hb⟩
              simp only at hr5 hc5
              have hbb := hb.alloc (.cells #[.int .i64 K1, .int .u32 (nb n1), .slice A5 x1.length c5] 25)
              have HF2 := Lib.hid (HF1.out.trans hbb)
              have HB5 := Lib.hid (heap_alloc_new wp (.cells #[.int .i64 K1, .int .u32 (nb n1), .slice A5 x1.length c5] 25))
              have HR5 := Lib.hid (((FB.refl wp).alloc (.cells #[.int .i64 K1, .int .u32 (nb n1), .slice A5 x1.length c5] 25)).rd hr5)
              have hc2 := r5_Read v A' c' (wp.alloc (.cells #[.int .i64 K1, .int .u32 (nb n1), .slice A5 x1.length c5] 25)) HL.out HCV.out.1 HCV.out.2 (HF2.out.rd HRV.out)
              rw [← HRR.out] at hc2
              have HC2 := Lib.hid hc2
              clear hr5 hc5 hm5 hb hbb hc2 HC1 HF1
              go_wp2_with fail
              generalize wp.alloc _ = wq at *
              generalize wp.heap.size = g5 at *
              refine HC2.out.mono ?_
              rintro e wu ⟨A6, c6, rfl, hr6, hc6, hm6, hb⟩
              simp only at hr6 hc6
              have hbb := hb.alloc (.cells #[.int .i64 K1, .int .u32 (nb n1), .slice A6 x1.length c6] 25)
              have HF3 := Lib.hid (HF2.out.trans hbb)
              have HB53 := Lib.hid ((hbb.block _ (Array.getElem?_eq_some_iff.1 HB5.out).1).trans HB5.out)
              have HB6 := Lib.hid (heap_alloc_new wu (.cells #[.int .i64 K1, .int .u32 (nb n1), .slice A6 x1.length c6] 25))
              have hkp := kit_Page K1 K1 n1 n1 x1 x1 A5 A6 c5 c6 (wu.alloc (.cells #[.int .i64 K1, .int .u32 (nb n1), .slice A6 x1.length c6] 25)) (hbb.rd HR5.out) (((FB.refl wu).alloc _).rd hr6)
              rw [pgEq_self] at hkp
              have HC3 := Lib.hid hkp
              clear hr6 hc6 hm6 hb hbb hkp HC2 HF2 HB5 HR5
              obtain ⟨q0, q1, q2⟩ := prow3 HB53.out
              obtain ⟨r0, r1, r2⟩ := prow3 HB6.out
              go_wp2_with fail
              clear q0 q1 q2 r0 r1 r2
              refine HC3.out.mono ?_
              rintro e wv ⟨rfl, hb⟩
              have HF4 := Lib.hid (HW.out.trans (HF3.out.trans hb))
              have hee : (er != er) = false := by simp
              clear hb HC3 HF3 HB53 HB6
              go_wp2
              go_roundw
              case rel => exact ⟨k + 1, by have := HK.out; omega, by go_num, HF4.out⟩
              case measure => (show 2 - ((k : Int) + 1).toNat < 2 - ((k : Int)).toNat; have := HK.out; omega)
            · have hz : ¬ (k : Int) < 2 := by omega
              go_wp2
              go_ret
              exact ⟨rfl, HTF.out.trans HW.out⟩
        · have heb : (ey == 0) = false := by simpa using hey
          have HRZ := Lib.hid (Own.info HO.out).2.2.1
          have HZC := Lib.hid (show ([] : List Byte).length ≤ c13 ∧ c13 ≤ maxLen from ⟨(Own.info HO.out).1, (Own.info HO.out).2.1⟩)
          have HZ5 := Lib.hid (show ([] : List Byte).length ≤ 5000 from by simp)
          clear hey HO
          go_upto_region 11 with fail
          generalize hzs : ([] : List Byte) = zs at *
          clear hzs heb
          go_wp2_with fail
          have HTF := Lib.hid (HFT.out.alloc (.cells #[.slice C b.length c3, .slice A13 zs.length c13] 23))
          have hg := heap_alloc_new wt (.cells #[.slice C b.length c3, .slice A13 zs.length c13] 23)
          have HEL := Lib.hid (show ∀ k : Nat, k < 2 → ∃ A' c' v, (wt.alloc (.cells #[.slice C b.length c3, .slice A13 zs.length c13] 23)).cell? ⟨wt.heap.size, k, none⟩ = some (.slice A' (v : List Byte).length c') ∧ v.length ≤ c' ∧ c' ≤ maxLen ∧ Rd (wt.alloc (.cells #[.slice C b.length c3, .slice A13 zs.length c13] 23)) A' v ∧ v.length ≤ 5000 from by
            intro k hk
            match k, hk with
            | 0, _ => exact ⟨C, c3, b, by rw [cell_of_row _ _ _ _ _ _ hg]; rfl, HCB.out.1, HCB.out.2, HTF.out.rd HRB.out, HLB.out⟩
            | 1, _ => exact ⟨A13, c13, zs, by rw [cell_of_row _ _ _ _ _ _ hg]; rfl, HZC.out.1, HZC.out.2, ((FB.refl wt).alloc _).rd HRZ.out, HZ5.out⟩)
          clear hg
          generalize wt.alloc _ = W at *
          generalize wt.heap.size = g at *
          go_loopw [90] (fun i wr => ∃ k : Nat, k ≤ 2 ∧ i = .int .i64 k ∧ Hid (FB W wr)) (fun i _ => 2 - (intOf i).toNat)
          case atStart => exact ⟨0, by omega, rfl, Lib.hid (FB.refl _)⟩
          case round =>
            obtain ⟨k, hk, rfl, HW⟩ := hrel
            by_cases hlt : k < 2
            · obtain ⟨A', c', v, hcell, hc', hm', hrd, hl5⟩ := HEL.out k hlt
              have hcr := HW.out.cell hcell
              have hz : (k : Int) < 2 := by omega
              have HK := Lib.hid hlt
              have hwk : IntKind.i64.wrap ((k : Int) + 1) = (k : Int) + 1 := by rw [IntKind.wrap_i64]; omega
              have HL := Lib.hid (show v.length ≤ 1000000000 from by omega)
              have HCV := Lib.hid (And.intro hc' hm')
              have HRV := Lib.hid (HW.out.rd hrd)
              have HC := Lib.hid (kit_Own v A' c' wr hc' (by omega) HRV.out)
              clear hcell hc' hm' hrd hl5 hlt hk
              go_wp2_with fail
              clear hcr
              refine HC.out.mono ?_
              rintro e wo ⟨Ao, co, rfl, ho, hb⟩
              have hi := Own.info ho
              have HF1 := Lib.hid (show FB wr wo from hb)
              have HC1 := Lib.hid (pg_Read v Ao co wo HL.out hi.1 hi.2.1 hi.2.2.1)
              obtain ⟨r, hrr⟩ : ∃ r, r = pgR v := ⟨_, rfl⟩
              rw [← hrr] at HC1
              obtain ⟨⟨K1, n1, x1⟩, er⟩ := r
              have HRR := Lib.hid hrr
              clear ho hb hi HC hrr
              go_wp2_with fail
              refine HC1.out.mono ?_
              rintro e wp ⟨A5, c5, rfl, hr5, hc5, hm5, hb⟩
              simp only at hr5 hc5
              have hbb := hb.alloc (.cells #[.int .i64 K1, .int .u32 (nb n1), .slice A5 x1.length c5] 25)
              have HF2 := Lib.hid (HF1.out.trans hbb)
              have HB5 := Lib.hid (heap_alloc_new wp (.cells #[.int .i64 K1, .int .u32 (nb n1), .slice A5 x1.length c5] 25))
              have HR5 := Lib.hid (((FB.refl wp).alloc (.cells #[.int .i64 K1, .int .u32 (nb n1), .slice A5 x1.length c5] 25)).rd hr5)
              have hc2 := r5_Read v A' c' (wp.alloc (.cells #[.int .i64 K1, .int .u32 (nb n1), .slice A5 x1.length c5] 25)) HL.out HCV.out.1 HCV.out.2 (HF2.out.rd HRV.out)
              rw [← HRR.out] at hc2
              have HC2 := Lib.hid hc2
              clear hr5 hc5 hm5 hb hbb hc2 HC1 HF1
              go_wp2_with fail
              generalize wp.alloc _ = wq at *
              generalize wp.heap.size = g5 at *
              refine HC2.out.mono ?_
              rintro e wu ⟨A6, c6, rfl, hr6, hc6, hm6, hb⟩
              simp only at hr6 hc6
              have hbb := hb.alloc (.cells #[.int .i64 K1, .int .u32 (nb n1), .slice A6 x1.length c6] 25)
              have HF3 := Lib.hid (HF2.out.trans hbb)
              have HB53 := Lib.hid ((hbb.block _ (Array.getElem?_eq_some_iff.1 HB5.out).1).trans HB5.out)
              have HB6 := Lib.hid (heap_alloc_new wu (.cells #[.int .i64 K1, .int .u32 (nb n1), .slice A6 x1.length c6] 25))
              have hkp := kit_Page K1 K1 n1 n1 x1 x1 A5 A6 c5 c6 (wu.alloc (.cells #[.int .i64 K1, .int .u32 (nb n1), .slice A6 x1.length c6] 25)) (hbb.rd HR5.out) (((FB.refl wu).alloc _).rd hr6)
              rw [pgEq_self] at hkp
              have HC3 := Lib.hid hkp
              clear hr6 hc6 hm6 hb hbb hkp HC2 HF2 HB5 HR5
              obtain ⟨q0, q1, q2⟩ := prow3 HB53.out
              obtain ⟨r0, r1, r2⟩ := prow3 HB6.out
              go_wp2_with fail
              clear q0 q1 q2 r0 r1 r2
              refine HC3.out.mono ?_
              rintro e wv ⟨rfl, hb⟩
              have HF4 := Lib.hid (HW.out.trans (HF3.out.trans hb))
              have hee : (er != er) = false := by simp
              clear hb HC3 HF3 HB53 HB6
              go_wp2
              go_roundw
              case rel => exact ⟨k + 1, by have := HK.out; omega, by go_num, HF4.out⟩
              case measure => (show 2 - ((k : Int) + 1).toNat < 2 - ((k : Int)).toNat; have := HK.out; omega)
            · have hz : ¬ (k : Int) < 2 := by omega
              go_wp2
              go_ret
              exact ⟨rfl, HTF.out.trans HW.out⟩
end Go.Proofs.YtihljjfnjclefaaDoor
