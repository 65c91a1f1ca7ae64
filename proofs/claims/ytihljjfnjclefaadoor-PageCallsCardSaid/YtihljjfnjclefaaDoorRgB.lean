/- the reference of layer 5: Bytes. -/
import Derived.Test.YtihljjfnjclefaaDoorRgA
set_option linter.unusedVariables false
set_option linter.unusedSimpArgs false
namespace Go.Proofs.YtihljjfnjclefaaDoor
open Go.ChangeShapes Go.WideShapes Go.ChangeAt Go.RowKit
attribute [local go_sem] nb_nonneg nb_lt8 nb_lt64
set_option maxRecDepth 100000

theorem append_none (w : World) {base : Nat} {A : Option Addr} {l c : Nat} (xs : List Byte) (h : Own w base (.slice A l c) xs) (hl : xs.length = l) (h0 : 0 < l) (ty : TypeId) :
    (Builtin.append_ #[23, 3] ty #[.slice A l c, .int .i64 ((0 : Nat) : Int)]).run Tryd.prog w = .ok (.slice A l c) w := by
  obtain ⟨i, hi, hz, hsz, hby⟩ := info_parts info_u8
  have hc := (Own.info h).1
  rw [hl] at hc
  obtain ⟨g, rfl, -, -⟩ := OwnV.head0 h (by rw [vbs_length]; omega)
  have hw : IntKind.i64.wrap 0 = 0 := rfl
  simp [Builtin.append_, run_underlying Tryd.underlying23, run_underlying Tryd.underlying3, sizeOf, typeInfo, hi, hsz, hby, asInt, asIntOf, hw, hc, storeCells]
set_option maxHeartbeats 4000000 in
theorem r5_Bytes (K : Int) (n : BitVec 32) (x : List Byte) (A : Option Addr) (c : Nat) (w : World) (hx : x.length ≤ 1000000000) (hr : Rd w A x) :
    Calls Tryd.prog 16 #[.agg #[.int .i64 K, .int .u32 (nb n), .slice A x.length c]] w fun e w' => PgBy (pgB K n x) w e w' := by
  have HF := Lib.hid ((FB.refl w).alloc (.cells #[.int .i64 K, .int .u32 (nb n), .slice A x.length c] 25))
  have HR := Lib.hid hr
  obtain ⟨R, hR⟩ : ∃ R, R = pgB K n x := ⟨_, rfl⟩
  rw [← hR]
  unfold pgB at hR
  clear hr
  by_cases h1 : K < 1
  · obtain rfl : R = ([], 2) := by rw [hR, if_neg (by rw [pgOk_iff]; omega)]
    clear hR
    go_enter Tryd.func16, Tryd.ntmps16
    go_wp2
    go_ret2
    exact ⟨none, 0, rfl, Own.nil _ _, HF.out⟩
  · by_cases h2 : 7 < K
    · obtain rfl : R = ([], 2) := by rw [hR, if_neg (by rw [pgOk_iff]; omega)]
      clear hR
      go_enter Tryd.func16, Tryd.ntmps16
      go_wp2
      go_ret2
      exact ⟨none, 0, rfl, Own.nil _ _, HF.out⟩
    · by_cases h3 : 4080 < x.length
      · obtain rfl : R = ([], 2) := by rw [hR, if_neg (by rw [pgOk_iff]; omega)]
        have h3z : 4080 < (x.length : Int) := by omega
        clear hR h3
        go_enter Tryd.func16, Tryd.ntmps16
        go_wp2
        go_ret2
        exact ⟨none, 0, rfl, Own.nil _ _, HF.out⟩
      · rw [if_pos (pgOk_iff.2 (by omega))] at hR
        have HRR := Lib.hid hR
        have h3z : ¬ 4080 < (x.length : Int) := by omega
        have HX := Lib.hid (show x.length ≤ 4080 from by omega)
        have hwK : IntKind.u8.wrap K = K := by rw [IntKind.wrap_u8]; omega
        have hwn : IntKind.u64.wrap (nb n) = nb n := by rw [wrap_u64]; have := nb_lt32 n; have := nb_nonneg n; omega
        obtain ⟨k, hk⟩ : ∃ k, k = BitVec.ofInt 8 K := ⟨_, rfl⟩
        have HKN := Lib.hid (show nb k = K from by rw [hk]; exact nb_kind (by omega))
        rw [← hk] at HRR
        have HLIT := Lib.hid (show ∀ W : World, Rd (W.alloc (.cells #[.int .u8 84, .int .u8 77, .int .u8 1, .int .u8 K] 5)) (some ⟨W.heap.size, 0, none⟩) [0x54#8, 0x4d#8, 1#8, k] from fun W => by
          unfold Rd
          rw [show vbs [0x54#8, 0x4d#8, 1#8, k] = [.int .u8 84, .int .u8 77, .int .u8 1, .int .u8 K] from by rw [← HKN.out]; rfl]
          exact RdV.lit W [.int .u8 84, .int .u8 77, .int .u8 1, .int .u8 K] 5 rfl)
        have HWD := Lib.hid (fun W => by
          have := ref_Word [0x54#8, 0x4d#8, 1#8, k] (some ⟨W.heap.size, 0, none⟩) 4 4 (n.setWidth 64) 4 (W.alloc (.cells #[.int .u8 84, .int .u8 77, .int .u8 1, .int .u8 K] 5)) rfl (by simp) (HLIT.out W) (.inr (.inl rfl))
          rw [nb_setWidth n (by omega)] at this
          exact this.mono (fun e w' h => by
            obtain ⟨v, h1, h2, h3⟩ := h
            exact (show ∃ v, e = .returned v ∧ Own w' W.heap.size v (hd8 k n) ∧ FB W w' from ⟨v, h1, h2.lower (by simp), ((FB.refl W).alloc _).call h3⟩)))
        have HBX := Lib.hid (heap_alloc_new w (.cells #[.int .i64 K, .int .u32 (nb n), .slice A x.length c] 25))
        clear hR hk h3
        go_enter Tryd.func16, Tryd.ntmps16
        go_wp2_with fail
        have hcw := HWD.out (w.alloc (.cells #[.int .i64 K, .int .u32 (nb n), .slice A x.length c] 25))
        simp only [World.size_alloc] at hcw
        refine hcw.mono ?_
        rintro e w1 ⟨v, rfl, ho, hb⟩
        obtain ⟨A1, c1, rfl, -, -, -, -⟩ := Own.form ho
        rw [hd8_len] at ho ⊢
        have HF1 := Lib.hid (HF.out.trans hb)
        have HBX1 := Lib.hid ((hb.block _ (Array.getElem?_eq_some_iff.1 HBX.out).1).trans HBX.out)
        have HG1 := Lib.hid (show w.heap.size + 1 ≤ w1.heap.size from by have := hb.le; simpa using this)
        have HO1 := Lib.hid ho
        have HLZ := Lib.hid (show ∀ W : World, Rd (W.alloc (.cells #[.int .u8 0, .int .u8 0, .int .u8 0, .int .u8 0, .int .u8 0, .int .u8 0, .int .u8 0, .int .u8 0] 5)) (some ⟨W.heap.size, 0, none⟩) (z4 ++ z4) from fun W => RdV.lit W (vbs (z4 ++ z4)) 5 rfl)
        clear hcw ho hb HWD HLIT HBX HF hwK hwn
        go_upto_region 6 with (at_builtin; refine wpList_append_bytes rfl _ _ rfl (w.heap.size + 1) _ _ (HO1.out.alloc _) rfl (some ⟨w1.heap.size, 0, none⟩) 8 (z4 ++ z4) rfl (HLZ.out w1) (by rw [hd8_len]; simp [z4]) (by have := HG1.out; simp; omega) ?_; intro v' w2 ho hg _; have HO2 := Lib.hid ho; have HG := Lib.hid hg; clear ho hg)
        have hlo := fun k hk => (OwnV.base HO1.out k hk).1
        have HF2 := Lib.hid ((HF1.out.alloc (.cells #[.int .u8 0, .int .u8 0, .int .u8 0, .int .u8 0, .int .u8 0, .int .u8 0, .int .u8 0, .int .u8 0] 5)).grown HG.out (fun k hk => by have := hlo k hk; omega))
        have HBX2 := Lib.hid ((HG.out.block _ (Nat.lt_of_lt_of_le (Array.getElem?_eq_some_iff.1 HBX1.out).1 (by simp)) (fun e => by have := hlo _ e.symm; omega)).trans (((FB.refl w1).alloc _).block _ (Array.getElem?_eq_some_iff.1 HBX1.out).1 |>.trans HBX1.out))
        have HS2 := Lib.hid (show w.heap.size + 1 ≤ w2.heap.size from (Array.getElem?_eq_some_iff.1 HBX2.out).1)
        have hl2 : (hd8 k n ++ (z4 ++ z4)).length = 16 := by simp [hd8_len, z4]
        obtain ⟨q0, q1, q2⟩ := prow3 HBX2.out
        clear hlo HG HO1 HLZ HBX1 HF1 HG1
        go_upto_region 7 with (at_builtin; refine wpList_append_bytes rfl _ _ rfl (w.heap.size + 1) _ _ HO2.out rfl A c x rfl (HF2.out.rd HR.out) (by rw [hl2]; have := HX.out; omega) HS2.out ?_; intro v' w3 ho hg _; have HO3 := Lib.hid ho; have HG := Lib.hid hg; clear ho hg)
        clear q0 q1 q2
        have hlo := fun k hk => (OwnV.base HO2.out k hk).1
        have HF3 := Lib.hid (HF2.out.grown HG.out (fun k hk => by have := hlo k hk; omega))
        have HS3 := Lib.hid (show w.heap.size + 1 ≤ w3.heap.size from Nat.le_trans HS2.out HG.out.size)
        have hl3 : (hd8 k n ++ (z4 ++ z4) ++ x).length = 16 + x.length := by rw [List.length_append, hl2]
        obtain ⟨A3, c3, e3, -, -, -, -⟩ := Own.form HO3.out
        rw [hl3] at e3
        subst e3
        have HO3' := Lib.hid HO3.out
        have hln : (hd8 k n ++ (z4 ++ z4) ++ x ++ List.replicate (4080 - x.length) 0#8) = pgB1 k n x := by
          unfold pgB1 pgPad; rw [pgHd_hd8]; simp only [List.append_assoc]
        obtain ⟨m, hm⟩ : ∃ m, m = 4080 - x.length := ⟨_, rfl⟩
        have hmz : (4096 : Int) - ((16 + x.length : Nat) : Int) = (m : Int) := by have := HX.out; omega
        have hmz2 : (4096 : Int) - (16 + (x.length : Int)) = (m : Int) := by have := HX.out; omega
        have hwm : IntKind.i64.wrap (m : Int) = (m : Int) := by rw [IntKind.wrap_i64]; omega
        obtain ⟨v2, w4, hrun, ho2, hgr⟩ : ∃ v' w', (∀ ty, (Builtin.append_ #[23, 3] ty #[.slice A3 (16 + x.length) c3, .int .i64 (m : Int)]).run Tryd.prog w3 = .ok v' w') ∧ Own w' (w.heap.size + 1) v' (pgB1 k n x) ∧ w3.grownBy w' (Value.slice A3 (16 + x.length) c3).ownBlock := by
          by_cases h0 : 0 < m
          · obtain ⟨v', w', h1, h2, h3⟩ := run_append_zeros w3 (w.heap.size + 1) _ _ HO3.out (by rw [hl3]; omega) m h0 (by rw [hl3]; omega) HS3.out
            rw [hm, hln] at h2
            exact ⟨v', w', h1, h2, h3⟩
          · have hm0 : m = 0 := by omega
            refine ⟨.slice A3 (16 + x.length) c3, w3, fun ty => by rw [hm0]; exact append_none w3 _ HO3.out (by rw [hl3]) (by omega) ty, ?_, World.grownBy.refl _ _⟩
            have q := HO3.out
            rw [show hd8 k n ++ (z4 ++ z4) ++ x = pgB1 k n x from by rw [← hln, ← hm, hm0]; simp] at q
            exact q
        have HRUN := Lib.hid hrun
        have hlo3 := fun k hk => (OwnV.base HO3.out k hk).1
        have HF4 := Lib.hid (HF3.out.grown hgr (fun k hk => by have := hlo3 k hk; omega))
        obtain ⟨A2, c2, rfl, hc2, hm2, -, -⟩ := Own.form ho2
        rw [pgB1_len k n HX.out] at ho2 hc2 HRUN
        obtain ⟨g, rfl, hg1, -⟩ := OwnV.head0 ho2 (by rw [vbs_length, pgB1_len k n HX.out]; omega)
        have HC2 := Lib.hid (And.intro hc2 hm2)
        have HO6 := Lib.hid ho2
        have HF6 := HF4
        have HGB := Lib.hid hg1
        clear hm hl3 hrun hgr hlo hlo3 ho2 hc2 hm2 hg1 hln HO3' HO3 HF3 HF2 HO2 HBX2 HG hl2
        go_upto_region 8 with (at_builtin; refine Lib.wpList_append_run _ rfl _ _ _ _ rfl _ _ rfl rfl _ _ (HRUN.out _) ?_)
        clear HRUN hmz hmz2 hwm
        have HCF := Lib.hid (show (12 : Int) ≤ (c2 : Int) ∧ (c2 : Int) ≤ 9223372036854775807 ∧ 12 < c2 from by have := HC2.out; simp only [maxLen] at this; omega)
        have hf2 := HCF.out.1
        have hf3 := HCF.out.2.1
        have hf6 : ¬ c2 = 12 := by have := HCF.out; omega
        generalize w4 = w6 at *
        obtain ⟨W0, hW0⟩ : ∃ W0 : World, W0 = w6 := ⟨_, rfl⟩
        rw [← hW0]
        refine region_sch (E := TS ([g])) ((0, true) :: (1, true) :: (2, true) :: (3, false) :: (4, true) :: (5, false) :: (6, false) :: []) (by kernel_rfl) (TS.refl _) (fun _ _ _ h k => TS.then h k) (fun _ _ d _ _ h => by cases d <;> exact h) (by kernel_rfl) ?_
        intro ops hops0
        have hops := Lib.hid hops0
        clear hops0
        have HF : TS ([g]) W0 W0.drew := TS.of (FB.refl _).drew
        have HD : FB W0 W0.drew := (FB.refl _).drew
        generalize W0.drew = wF0 at *
        rw [hW0] at HD
        have HFq := Lib.hid (HF6.out.trans HD)
        have HOq := Lib.hid (HD.own HO6.out)
        clear hW0 HD HF HF6 HO6
        repeat (refine sch_take (o := ?_) (v := ?_) (a' := ?_) (at_of hops.out ?_) ?_ (fun W hW => ?_) ?_ ?_; rotate_left 3; (focus (simp only [List.getElem?_toArray, List.getElem?_cons_zero, List.getElem?_cons_succ]; rfl)); (focus (rw [hops.out]; rfl)); (focus (go_simp; with_reducible rfl)); (focus (simp only [Act.put, List.setIfInBounds_toArray, List.set_cons_zero, List.set_cons_succ]; rfl)))
        have HCR := Lib.hid (show Calls Tryd.prog 46 #[.slice (some ⟨g, 0, none⟩) 4096 c2] wF0 fun e w' => e = .returned (.int .u32 (nb (pgSum k n x))) ∧ FB wF0 w' from by
          have h1 := r5_sum (pgB1 k n x) (some ⟨g, 0, none⟩) c2 wF0 (pgB1_len k n HX.out) (Own.info HOq.out).2.2.1
          rw [pgB1_take, pgB1_drop] at h1
          exact h1)
        (refine sch_call (o := ?_) (f := ?_) (args := ?_) (at_of hops.out ?_) ?_ ?_ ?_; rotate_left 3; (focus (simp only [List.getElem?_toArray, List.getElem?_cons_zero, List.getElem?_cons_succ]; rfl)); (focus (rw [hops.out]; rfl)); (focus (go_simp; constructor <;> with_reducible rfl)); (first | ((with_reducible refine (HCR.out).mono ?_); rintro e w7 ⟨rfl, hb⟩; refine ⟨_, rfl, (TS.of hb), ?_⟩; intro a' ha'; simp only [Act.put, List.setIfInBounds_toArray, List.set_cons_zero, List.set_cons_succ] at ha'; subst ha')))
        have HFr := Lib.hid (HFq.out.trans hb)
        have HOr := Lib.hid (FB.own hb HOq.out)
        clear hb HCR HOq HFq
        generalize hsm : pgSum k n x = sm at *
        have HSM := Lib.hid hsm
        have hws : IntKind.u64.wrap (nb sm) = nb sm := by rw [wrap_u64]; have := nb_lt32 sm; have := nb_nonneg sm; omega
        clear hsm
        repeat (refine sch_take (o := ?_) (v := ?_) (a' := ?_) (at_of hops.out ?_) ?_ (fun W hW => ?_) ?_ ?_; rotate_left 3; (focus (simp only [List.getElem?_toArray, List.getElem?_cons_zero, List.getElem?_cons_succ]; rfl)); (focus (rw [hops.out]; rfl)); (focus (go_simp; with_reducible rfl)); (focus (simp only [Act.put, List.setIfInBounds_toArray, List.set_cons_zero, List.set_cons_succ]; rfl)))
        have HW2 := Lib.hid (show Calls Tryd.prog 45 #[.slice none 0 0, .int .u64 (nb sm), .int .i64 4] w7 fun e w' => ∃ v, e = .returned v ∧ Own w' w7.heap.size v (oword 4 (sm.setWidth 64)) ∧ FB w7 w' from by
          have h1 := ref_Word [] none 0 0 (sm.setWidth 64) 4 w7 rfl (by simp) (Rd.nil _ _) (.inr (.inl rfl))
          rw [nb_setWidth sm (by omega)] at h1
          exact h1)
        (refine sch_call (o := ?_) (f := ?_) (args := ?_) (at_of hops.out ?_) ?_ ?_ ?_; rotate_left 3; (focus (simp only [List.getElem?_toArray, List.getElem?_cons_zero, List.getElem?_cons_succ]; rfl)); (focus (rw [hops.out]; rfl)); (focus (go_simp; constructor <;> with_reducible rfl)); (first | ((with_reducible refine (HW2.out).mono ?_); rintro e w8 ⟨v8, rfl, ho8, hb⟩; refine ⟨_, rfl, (TS.of hb), ?_⟩; intro a' ha'; simp only [Act.put, List.setIfInBounds_toArray, List.set_cons_zero, List.set_cons_succ] at ha'; subst ha')))
        obtain ⟨A8, c8, rfl, -, -, hr8, -⟩ := Own.form ho8
        have HFs := Lib.hid (HFr.out.trans hb)
        have HOs := Lib.hid (FB.own hb HOr.out)
        obtain ⟨w9, hrunc, hoc, htb⟩ := cp_run HOs.out 12 4084 (c2 - 12) A8 c8 (oword 4 (sm.setWidth 64)) hr8 (by rw [oword_len]; omega) (by rw [oword_len, pgB1_len k n HX.out]; omega)
        rw [pg_splice2 k n x (oword_len _ _)] at hoc
        rw [oword_len] at hrunc ⊢
        (refine cp_sch (o := ?_) (at_of hops.out ?_) ?_ (.tmp 41) (.tmp 45) 23 23 ?_ _ _ ?_ ?_ hrunc (TS.tb htb (by simp)) ?_; rotate_left 1; (focus (simp only [List.getElem?_toArray, List.getElem?_cons_zero, List.getElem?_cons_succ]; rfl)); (focus (rw [hops.out]; rfl)); (focus rfl); (focus rfl); (focus rfl))
        simp only [Act.put, List.setIfInBounds_toArray, List.set_cons_zero, List.set_cons_succ]
        refine sch_done ?_
        have HE := Lib.hid (HFs.out.ts (show TS [g] w8 w9 from TS.tb htb (by simp)) (fun y hy => by have := HGB.out; simp at hy; omega))
        have HO9 := Lib.hid (show Own w9 w.heap.size (.slice (some ⟨g, 0, none⟩) 4096 c2) (pgBytes k n x) from by
          unfold pgBytes; rw [HSM.out]; exact hoc.lower (by omega))
        clear hops hoc htb hrunc HOs HOr HFr HFs hr8 ho8 hb
        go_wp2
        go_ret2
        rw [HRR.out]
        exact ⟨some ⟨g, 0, none⟩, c2, by rw [pgBytes_len k n HX.out]; rfl, by rw [pgBytes_len k n HX.out]; exact HO9.out, HE.out⟩
end Go.Proofs.YtihljjfnjclefaaDoor
