/- Walks and laws that the claim's last text stands on, several texts in one file: RgB, CrsP, Rws, Rfd, Rfe. Under the hypotheses that each theorem states. -/
import Derived.Laws.CopyOwn
import Derived.Test.YtihljjfnjclefaaDoorMPageDiska
import Derived.Test.YtihljjfnjclefaaDoorMPageDiskb
import Derived.Test.YtihljjfnjclefaaDoorMPageDiskc
import Derived.Test.YtihljjfnjclefaaDoorMPageDiskd
import Derived.Test.YtihljjfnjclefaaDoorMPageDiske
import Derived.Test.YtihljjfnjclefaaDoorMPageDiskf
import Derived.Test.YtihljjfnjclefaaDoorMPageDiskg
import Derived.Test.YtihljjfnjclefaaDoorMPageDiskh
import Derived.Test.YtihljjfnjclefaaDoorMPageDiski
import Derived.Test.YtihljjfnjclefaaDoorMPageDiskj
/- the reference of layer 5: Bytes. -/
set_option linter.unusedVariables false
set_option linter.unusedSimpArgs false
namespace Go.Proofs.YtihljjfnjclefaaDoor
open Go.ChangeShapes Go.WideShapes Go.ChangeAt Go.RowKit
attribute [local go_sem] nb_nonneg nb_lt8 nb_lt64
set_option maxRecDepth 100000

theorem append_none (w : World) {base : Nat} {A : Option Addr} {l c : Nat} (xs : List Byte) (h : Own w base (.slice A l c) xs) (hl : xs.length = l) (h0 : 0 < l) (ty : TypeId) :
    (Builtin.append_ #[23, 3] ty #[.slice A l c, .int .i64 ((0 : Nat) : Int)]).run Tryd.prog w = .ok (.slice A l c) w := by
  obtain ⟨i, hi, hz, hsz, hby⟩ := info_parts info_u8
  have hc := (Own.info h).1
  rw [hl] at hc
  obtain ⟨g, rfl, -, -⟩ := OwnV.head0 h (by rw [vbs_length]; omega)
  have hw : IntKind.i64.wrap 0 = 0 := rfl
  simp [Builtin.append_, run_underlying Tryd.underlying23, run_underlying Tryd.underlying3, sizeOf, typeInfo, hi, hsz, hby, asInt, asIntOf, hw, hc, storeCells]
set_option maxHeartbeats 4000000 in
theorem r5_Bytes (K : Int) (n : BitVec 32) (x : List Byte) (A : Option Addr) (c : Nat) (w : World) (hx : x.length ≤ 1000000000) (hr : Rd w A x) :
    Calls Tryd.prog 16 #[.agg #[.int .i64 K, .int .u32 (nb n), .slice A x.length c]] w fun e w' => PgBy (pgB K n x) w e w' := by
  have HF := Lib.hid ((FB.refl w).alloc (.cells #[.int .i64 K, .int .u32 (nb n), .slice A x.length c] 25))
  have HR := Lib.hid hr
  obtain ⟨R, hR⟩ : ∃ R, R = pgB K n x := ⟨_, rfl⟩
  rw [← hR]
  unfold pgB at hR
  clear hr
  by_cases h1 : K < 1
  · obtain rfl : R = ([], 2) := by rw [hR, if_neg (by rw [pgOk_iff]; omega)]
    clear hR
    go_enter Tryd.func16, Tryd.ntmps16
    go_wp2
    go_ret2
    exact ⟨none, 0, rfl, Own.nil _ _, HF.out⟩
  · by_cases h2 : 7 < K
    · obtain rfl : R = ([], 2) := by rw [hR, if_neg (by rw [pgOk_iff]; omega)]
      clear hR
      go_enter Tryd.func16, Tryd.ntmps16
      go_wp2
      go_ret2
      exact ⟨none, 0, rfl, Own.nil _ _, HF.out⟩
    · by_cases h3 : 4080 < x.length
      · obtain rfl : R = ([], 2) := by rw [hR, if_neg (by rw [pgOk_iff]; omega)]
        have h3z : 4080 < (x.length : Int) := by omega
        clear hR h3
        go_enter Tryd.func16, Tryd.ntmps16
        go_wp2
        go_ret2
        exact ⟨none, 0, rfl, Own.nil _ _, HF.out⟩
      · rw [if_pos (pgOk_iff.2 (by omega))] at hR
        have HRR := Lib.hid hR
        have h3z : ¬ 4080 < (x.length : Int) := by omega
        have HX := Lib.hid (show x.length ≤ 4080 from by omega)
        have hwK : IntKind.u8.wrap K = K := by rw [IntKind.wrap_u8]; omega
        have hwn : IntKind.u64.wrap (nb n) = nb n := by rw [wrap_u64]; have := nb_lt32 n; have := nb_nonneg n; omega
        obtain ⟨k, hk⟩ : ∃ k, k = BitVec.ofInt 8 K := ⟨_, rfl⟩
        have HKN := Lib.hid (show nb k = K from by rw [hk]; exact nb_kind (by omega))
        rw [← hk] at HRR
        have HLIT := Lib.hid (show ∀ W : World, Rd (W.alloc (.cells #[.int .u8 84, .int .u8 77, .int .u8 1, .int .u8 K] 5)) (some ⟨W.heap.size, 0, none⟩) [0x54#8, 0x4d#8, 1#8, k] from fun W => by
          unfold Rd
          rw [show vbs [0x54#8, 0x4d#8, 1#8, k] = [.int .u8 84, .int .u8 77, .int .u8 1, .int .u8 K] from by rw [← HKN.out]; rfl]
          exact RdV.lit W [.int .u8 84, .int .u8 77, .int .u8 1, .int .u8 K] 5 rfl)
        have HWD := Lib.hid (fun W => by
          have := ref_Word [0x54#8, 0x4d#8, 1#8, k] (some ⟨W.heap.size, 0, none⟩) 4 4 (n.setWidth 64) 4 (W.alloc (.cells #[.int .u8 84, .int .u8 77, .int .u8 1, .int .u8 K] 5)) rfl (by simp) (HLIT.out W) (.inr (.inl rfl))
          rw [nb_setWidth n (by omega)] at this
          exact this.mono (fun e w' h => by
            obtain ⟨v, h1, h2, h3⟩ := h
            exact (show ∃ v, e = .returned v ∧ Own w' W.heap.size v (hd8 k n) ∧ FB W w' from ⟨v, h1, h2.lower (by simp), ((FB.refl W).alloc _).call h3⟩)))
        have HBX := Lib.hid (heap_alloc_new w (.cells #[.int .i64 K, .int .u32 (nb n), .slice A x.length c] 25))
        clear hR hk h3
        go_enter Tryd.func16, Tryd.ntmps16
        go_wp2_with fail
        have hcw := HWD.out (w.alloc (.cells #[.int .i64 K, .int .u32 (nb n), .slice A x.length c] 25))
        simp only [World.size_alloc] at hcw
        refine hcw.mono ?_
        rintro e w1 ⟨v, rfl, ho, hb⟩
        obtain ⟨A1, c1, rfl, -, -, -, -⟩ := Own.form ho
        rw [hd8_len] at ho ⊢
        have HF1 := Lib.hid (HF.out.trans hb)
        have HBX1 := Lib.hid ((hb.block _ (Array.getElem?_eq_some_iff.1 HBX.out).1).trans HBX.out)
        have HG1 := Lib.hid (show w.heap.size + 1 ≤ w1.heap.size from by have := hb.le; simpa using this)
        have HO1 := Lib.hid ho
        have HLZ := Lib.hid (show ∀ W : World, Rd (W.alloc (.cells #[.int .u8 0, .int .u8 0, .int .u8 0, .int .u8 0, .int .u8 0, .int .u8 0, .int .u8 0, .int .u8 0] 5)) (some ⟨W.heap.size, 0, none⟩) (z4 ++ z4) from fun W => RdV.lit W (vbs (z4 ++ z4)) 5 rfl)
        clear hcw ho hb HWD HLIT HBX HF hwK hwn
        go_upto_region 6 with (at_builtin; refine wpList_append_bytes rfl _ _ rfl (w.heap.size + 1) _ _ (HO1.out.alloc _) rfl (some ⟨w1.heap.size, 0, none⟩) 8 (z4 ++ z4) rfl (HLZ.out w1) (by rw [hd8_len]; simp [z4]) (by have := HG1.out; simp; omega) ?_; intro v' w2 ho hg _; have HO2 := Lib.hid ho; have HG := Lib.hid hg; clear ho hg)
        have hlo := fun k hk => (OwnV.base HO1.out k hk).1
        have HF2 := Lib.hid ((HF1.out.alloc (.cells #[.int .u8 0, .int .u8 0, .int .u8 0, .int .u8 0, .int .u8 0, .int .u8 0, .int .u8 0, .int .u8 0] 5)).grown HG.out (fun k hk => by have := hlo k hk; omega))
        have HBX2 := Lib.hid ((HG.out.block _ (Nat.lt_of_lt_of_le (Array.getElem?_eq_some_iff.1 HBX1.out).1 (by simp)) (fun e => by have := hlo _ e.symm; omega)).trans (((FB.refl w1).alloc _).block _ (Array.getElem?_eq_some_iff.1 HBX1.out).1 |>.trans HBX1.out))
        have HS2 := Lib.hid (show w.heap.size + 1 ≤ w2.heap.size from (Array.getElem?_eq_some_iff.1 HBX2.out).1)
        have hl2 : (hd8 k n ++ (z4 ++ z4)).length = 16 := by simp [hd8_len, z4]
        obtain ⟨q0, q1, q2⟩ := prow3 HBX2.out
        clear hlo HG HO1 HLZ HBX1 HF1 HG1
        go_upto_region 7 with (at_builtin; refine wpList_append_bytes rfl _ _ rfl (w.heap.size + 1) _ _ HO2.out rfl A c x rfl (HF2.out.rd HR.out) (by rw [hl2]; have := HX.out; omega) HS2.out ?_; intro v' w3 ho hg _; have HO3 := Lib.hid ho; have HG := Lib.hid hg; clear ho hg)
        clear q0 q1 q2
        have hlo := fun k hk => (OwnV.base HO2.out k hk).1
        have HF3 := Lib.hid (HF2.out.grown HG.out (fun k hk => by have := hlo k hk; omega))
        have HS3 := Lib.hid (show w.heap.size + 1 ≤ w3.heap.size from Nat.le_trans HS2.out HG.out.size)
        have hl3 : (hd8 k n ++ (z4 ++ z4) ++ x).length = 16 + x.length := by rw [List.length_append, hl2]
        obtain ⟨A3, c3, e3, -, -, -, -⟩ := Own.form HO3.out
        rw [hl3] at e3
        subst e3
        have HO3' := Lib.hid HO3.out
        have hln : (hd8 k n ++ (z4 ++ z4) ++ x ++ List.replicate (4080 - x.length) 0#8) = pgB1 k n x := by
          unfold pgB1 pgPad; rw [pgHd_hd8]; simp only [List.append_assoc]
        obtain ⟨m, hm⟩ : ∃ m, m = 4080 - x.length := ⟨_, rfl⟩
        have hmz : (4096 : Int) - ((16 + x.length : Nat) : Int) = (m : Int) := by have := HX.out; omega
        have hmz2 : (4096 : Int) - (16 + (x.length : Int)) = (m : Int) := by have := HX.out; omega
        have hwm : IntKind.i64.wrap (m : Int) = (m : Int) := by rw [IntKind.wrap_i64]; omega
        obtain ⟨v2, w4, hrun, ho2, hgr⟩ : ∃ v' w', (∀ ty, (Builtin.append_ #[23, 3] ty #[.slice A3 (16 + x.length) c3, .int .i64 (m : Int)]).run Tryd.prog w3 = .ok v' w') ∧ Own w' (w.heap.size + 1) v' (pgB1 k n x) ∧ w3.grownBy w' (Value.slice A3 (16 + x.length) c3).ownBlock := by
          by_cases h0 : 0 < m
          · obtain ⟨v', w', h1, h2, h3⟩ := run_append_zeros w3 (w.heap.size + 1) _ _ HO3.out (by rw [hl3]; omega) m h0 (by rw [hl3]; omega) HS3.out
            rw [hm, hln] at h2
            exact ⟨v', w', h1, h2, h3⟩
          · have hm0 : m = 0 := by omega
            refine ⟨.slice A3 (16 + x.length) c3, w3, fun ty => by rw [hm0]; exact append_none w3 _ HO3.out (by rw [hl3]) (by omega) ty, ?_, World.grownBy.refl _ _⟩
            have q := HO3.out
            rw [show hd8 k n ++ (z4 ++ z4) ++ x = pgB1 k n x from by rw [← hln, ← hm, hm0]; simp] at q
            exact q
        have HRUN := Lib.hid hrun
        have hlo3 := fun k hk => (OwnV.base HO3.out k hk).1
        have HF4 := Lib.hid (HF3.out.grown hgr (fun k hk => by have := hlo3 k hk; omega))
        obtain ⟨A2, c2, rfl, hc2, hm2, -, -⟩ := Own.form ho2
        rw [pgB1_len k n HX.out] at ho2 hc2 HRUN
        obtain ⟨g, rfl, hg1, -⟩ := OwnV.head0 ho2 (by rw [vbs_length, pgB1_len k n HX.out]; omega)
        have HC2 := Lib.hid (And.intro hc2 hm2)
        have HO6 := Lib.hid ho2
        have HF6 := HF4
        have HGB := Lib.hid hg1
        clear hm hl3 hrun hgr hlo hlo3 ho2 hc2 hm2 hg1 hln HO3' HO3 HF3 HF2 HO2 HBX2 HG hl2
        go_upto_region 8 with (at_builtin; refine Lib.wpList_append_run _ rfl _ _ _ _ rfl _ _ rfl rfl _ _ (HRUN.out _) ?_)
        clear HRUN hmz hmz2 hwm
        have HCF := Lib.hid (show (12 : Int) ≤ (c2 : Int) ∧ (c2 : Int) ≤ 9223372036854775807 ∧ 12 < c2 from by have := HC2.out; simp only [maxLen] at this; omega)
        have hf2 := HCF.out.1
        have hf3 := HCF.out.2.1
        have hf6 : ¬ c2 = 12 := by have := HCF.out; omega
        generalize w4 = w6 at *
        obtain ⟨W0, hW0⟩ : ∃ W0 : World, W0 = w6 := ⟨_, rfl⟩
        rw [← hW0]
        refine region_sch (E := TS ([g])) ((0, true) :: (1, true) :: (2, true) :: (3, false) :: (4, true) :: (5, false) :: (6, false) :: []) (by kernel_rfl) (TS.refl _) (fun _ _ _ h k => TS.then h k) (fun _ _ d _ _ h => by cases d <;> exact h) (by kernel_rfl) ?_
        intro ops hops0
        have hops := Lib.hid hops0
        clear hops0
        have HF : TS ([g]) W0 W0.drew := TS.of (FB.refl _).drew
        have HD : FB W0 W0.drew := (FB.refl _).drew
        generalize W0.drew = wF0 at *
        rw [hW0] at HD
        have HFq := Lib.hid (HF6.out.trans HD)
        have HOq := Lib.hid (HD.own HO6.out)
        clear hW0 HD HF HF6 HO6
        repeat (refine sch_take (o := ?_) (v := ?_) (a' := ?_) (at_of hops.out ?_) ?_ (fun W hW => ?_) ?_ ?_; rotate_left 3; (focus (simp only [List.getElem?_toArray, List.getElem?_cons_zero, List.getElem?_cons_succ]; rfl)); (focus (rw [hops.out]; rfl)); (focus (go_simp; with_reducible rfl)); (focus (simp only [Act.put, List.setIfInBounds_toArray, List.set_cons_zero, List.set_cons_succ]; rfl)))
        have HCR := Lib.hid (show Calls Tryd.prog 46 #[.slice (some ⟨g, 0, none⟩) 4096 c2] wF0 fun e w' => e = .returned (.int .u32 (nb (pgSum k n x))) ∧ FB wF0 w' from by
          have h1 := r5_sum (pgB1 k n x) (some ⟨g, 0, none⟩) c2 wF0 (pgB1_len k n HX.out) (Own.info HOq.out).2.2.1
          rw [pgB1_take, pgB1_drop] at h1
          exact h1)
        (refine sch_call (o := ?_) (f := ?_) (args := ?_) (at_of hops.out ?_) ?_ ?_ ?_; rotate_left 3; (focus (simp only [List.getElem?_toArray, List.getElem?_cons_zero, List.getElem?_cons_succ]; rfl)); (focus (rw [hops.out]; rfl)); (focus (go_simp; constructor <;> with_reducible rfl)); (first | ((with_reducible refine (HCR.out).mono ?_); rintro e w7 ⟨rfl, hb⟩; refine ⟨_, rfl, (TS.of hb), ?_⟩; intro a' ha'; simp only [Act.put, List.setIfInBounds_toArray, List.set_cons_zero, List.set_cons_succ] at ha'; subst ha')))
        have HFr := Lib.hid (HFq.out.trans hb)
        have HOr := Lib.hid (FB.own hb HOq.out)
        clear hb HCR HOq HFq
        generalize hsm : pgSum k n x = sm at *
        have HSM := Lib.hid hsm
        have hws : IntKind.u64.wrap (nb sm) = nb sm := by rw [wrap_u64]; have := nb_lt32 sm; have := nb_nonneg sm; omega
        clear hsm
        repeat (refine sch_take (o := ?_) (v := ?_) (a' := ?_) (at_of hops.out ?_) ?_ (fun W hW => ?_) ?_ ?_; rotate_left 3; (focus (simp only [List.getElem?_toArray, List.getElem?_cons_zero, List.getElem?_cons_succ]; rfl)); (focus (rw [hops.out]; rfl)); (focus (go_simp; with_reducible rfl)); (focus (simp only [Act.put, List.setIfInBounds_toArray, List.set_cons_zero, List.set_cons_succ]; rfl)))
        have HW2 := Lib.hid (show Calls Tryd.prog 45 #[.slice none 0 0, .int .u64 (nb sm), .int .i64 4] w7 fun e w' => ∃ v, e = .returned v ∧ Own w' w7.heap.size v (oword 4 (sm.setWidth 64)) ∧ FB w7 w' from by
          have h1 := ref_Word [] none 0 0 (sm.setWidth 64) 4 w7 rfl (by simp) (Rd.nil _ _) (.inr (.inl rfl))
          rw [nb_setWidth sm (by omega)] at h1
          exact h1)
        (refine sch_call (o := ?_) (f := ?_) (args := ?_) (at_of hops.out ?_) ?_ ?_ ?_; rotate_left 3; (focus (simp only [List.getElem?_toArray, List.getElem?_cons_zero, List.getElem?_cons_succ]; rfl)); (focus (rw [hops.out]; rfl)); (focus (go_simp; constructor <;> with_reducible rfl)); (first | ((with_reducible refine (HW2.out).mono ?_); rintro e w8 ⟨v8, rfl, ho8, hb⟩; refine ⟨_, rfl, (TS.of hb), ?_⟩; intro a' ha'; simp only [Act.put, List.setIfInBounds_toArray, List.set_cons_zero, List.set_cons_succ] at ha'; subst ha')))
        obtain ⟨A8, c8, rfl, -, -, hr8, -⟩ := Own.form ho8
        have HFs := Lib.hid (HFr.out.trans hb)
        have HOs := Lib.hid (FB.own hb HOr.out)
        obtain ⟨w9, hrunc, hoc, htb⟩ := cp_run HOs.out 12 4084 (c2 - 12) A8 c8 (oword 4 (sm.setWidth 64)) hr8 (by rw [oword_len]; omega) (by rw [oword_len, pgB1_len k n HX.out]; omega)
        rw [pg_splice2 k n x (oword_len _ _)] at hoc
        rw [oword_len] at hrunc ⊢
        (refine cp_sch (o := ?_) (at_of hops.out ?_) ?_ (.tmp 41) (.tmp 45) 23 23 ?_ _ _ ?_ ?_ hrunc (TS.tb htb (by simp)) ?_; rotate_left 1; (focus (simp only [List.getElem?_toArray, List.getElem?_cons_zero, List.getElem?_cons_succ]; rfl)); (focus (rw [hops.out]; rfl)); (focus rfl); (focus rfl); (focus rfl))
        simp only [Act.put, List.setIfInBounds_toArray, List.set_cons_zero, List.set_cons_succ]
        refine sch_done ?_
        have HE := Lib.hid (HFs.out.ts (show TS [g] w8 w9 from TS.tb htb (by simp)) (fun y hy => by have := HGB.out; simp at hy; omega))
        have HO9 := Lib.hid (show Own w9 w.heap.size (.slice (some ⟨g, 0, none⟩) 4096 c2) (pgBytes k n x) from by
          unfold pgBytes; rw [HSM.out]; exact hoc.lower (by omega))
        clear hops hoc htb hrunc HOs HOr HFr HFs hr8 ho8 hb
        go_wp2
        go_ret2
        rw [HRR.out]
        exact ⟨some ⟨g, 0, none⟩, c2, by rw [pgBytes_len k n HX.out]; rfl, by rw [pgBytes_len k n HX.out]; exact HO9.out, HE.out⟩
end Go.Proofs.YtihljjfnjclefaaDoor
/- Sectors, plain: what was flushed, what was written last, and what a crash leaves of them. -/
set_option linter.unusedVariables false
set_option linter.unusedSimpArgs false
namespace Go.Proofs.YtihljjfnjclefaaDoor
open Go.ChangeShapes Go.WideShapes Go.ChangeAt Go.RowKit Go.MapKept

theorem cget_cput (M : List (Int × List Byte)) (k k' : Int) (x : List Byte) : cget (cput M k x) k' = if k' = k then some x else cget M k' := by
  induction M with
  | nil =>
    rw [cput, cget, cget]
    by_cases h : k = k'
    · rw [if_pos h, if_pos h.symm]
    · rw [if_neg h, if_neg (fun e => h e.symm)]; rfl
  | cons p M ih =>
    obtain ⟨pk, pv⟩ := p
    rw [cput]
    by_cases h : pk = k
    · rw [if_pos h, cget, cget]
      by_cases h2 : k = k'
      · rw [if_pos h2, if_pos h2.symm]
      · rw [if_neg h2, if_neg (fun e => h2 e.symm), if_neg (by rw [h]; exact h2)]
    · rw [if_neg h, cget, cget]
      by_cases h2 : pk = k'
      · rw [if_pos h2, if_neg (by rw [← h2]; exact h), if_pos h2]
      · rw [if_neg h2, ih, if_neg h2]
/-- fl: as at the last flush; la: as written last. -/
structure Lists (D : DiskSt) (n : Nat) (fl la : List (List Byte)) : Prop where
  nf : fl.length = n
  nl : la.length = n
  f : ∀ k, k < n → fl[k]? = some (sec D.b k)
  l : ∀ k, k < n → la[k]? = some ((cget D.M (k : Int)).getD (sec D.b k))
theorem Lists.start (n : Nat) : Lists ⟨List.replicate (512 * n) 0#8, [], none⟩ n (List.replicate n (List.replicate 512 0#8)) (List.replicate n (List.replicate 512 0#8)) :=
  ⟨List.length_replicate, List.length_replicate, fun k hk => by rw [sec_replicate n k _ hk, List.getElem?_replicate, if_pos hk], fun k hk => by rw [sec_replicate n k _ hk, List.getElem?_replicate, if_pos hk]; rfl⟩
theorem Lists.write {D : DiskSt} {n : Nat} {fl la : List (List Byte)} (h : Lists D n fl la) (k : Nat) (hk : k < n) (x : List Byte) : Lists ⟨D.b, cput D.M (k : Int) x, none⟩ n fl (la.set k x) :=
  ⟨h.nf, by rw [List.length_set]; exact h.nl, h.f, fun j hj => by
    rw [cget_cput, List.getElem?_set]
    by_cases e : k = j
    · subst e; rw [if_pos rfl, if_pos rfl, if_pos (by rw [h.nl]; exact hk)]; rfl
    · rw [if_neg e, if_neg (by omega)]; exact h.l j hj⟩
theorem Lists.flush {D : DiskSt} {n : Nat} {fl la : List (List Byte)} (h : Lists D n fl la) (hok : D.ok n) (hn : (D.M.map (·.1)).Nodup) : Lists ⟨flushB D.M D.b, [], none⟩ n la la :=
  ⟨h.nl, h.nl, fun k hk => by rw [sec_flushB hok.len hk hok.M hn]; exact h.l k hk, fun k hk => by
    simp only [cget, Option.getD_none]
    rw [sec_flushB hok.len hk hok.M hn]; exact h.l k hk⟩
theorem Lists.read {D : DiskSt} {n : Nat} {fl la : List (List Byte)} (h : Lists D n fl la) (k : Nat) (hk : k < n) : (cget D.M (k : Int)).getD (sec D.b ((k : Int).toNat)) = la[k]'(by rw [h.nl]; exact hk) := by
  have := h.l k hk
  rw [List.getElem?_eq_getElem (by rw [h.nl]; exact hk)] at this
  simp only [Option.some.injEq] at this
  rw [Int.toNat_natCast]; exact this.symm
theorem Lists.len {D : DiskSt} {n : Nat} {fl la : List (List Byte)} (h : Lists D n fl la) (hok : D.ok n) (k : Nat) (hk : k < n) : (fl[k]'(by rw [h.nf]; exact hk)).length = 512 ∧ (la[k]'(by rw [h.nl]; exact hk)).length = 512 := by
  have e1 := h.f k hk
  have e2 := h.l k hk
  rw [List.getElem?_eq_getElem (by rw [h.nf]; exact hk)] at e1
  rw [List.getElem?_eq_getElem (by rw [h.nl]; exact hk)] at e2
  simp only [Option.some.injEq] at e1 e2
  rw [e1, e2]
  refine ⟨sec_len hok.len hk, ?_⟩
  cases hg : cget D.M (k : Int) with
  | none => exact sec_len hok.len hk
  | some x =>
    obtain ⟨i, hi, hx⟩ := cget_some_at hg
    exact (hok.M _ (List.mem_of_getElem? hx)).2.2
/-- The sector that is torn. -/
def tornAt (M : List (Int × List Byte)) (T : Int) : Option Int := if 0 ≤ T then (M[T.toNat]?).map (·.1) else none
/-- How many bytes of a torn sector are the latest. -/
def cutAt (Y : Int) : Nat := (min (max 0 Y) 512).toNat
theorem cutAt_le (Y : Int) : cutAt Y ≤ 512 := by unfold cutAt; omega
/-- What a crash leaves of a sector. -/
theorem Lists.crash {D : DiskSt} {n : Nat} {fl la : List (List Byte)} (h : Lists D n fl la) (hok : D.ok n) (hn : (D.M.map (·.1)).Nodup) (keep : List Bool) (T Y : Int) (k : Nat) (hk : k < n) :
    sec (crashB (keptLen keep T Y) D.M D.b D.M.length) k = fl[k]'(by rw [h.nf]; exact hk) ∨ sec (crashB (keptLen keep T Y) D.M D.b D.M.length) k = la[k]'(by rw [h.nl]; exact hk) ∨
    (tornAt D.M T = some (k : Int) ∧ (sec (crashB (keptLen keep T Y) D.M D.b D.M.length) k).take (cutAt Y) = (la[k]'(by rw [h.nl]; exact hk)).take (cutAt Y) ∧ (sec (crashB (keptLen keep T Y) D.M D.b D.M.length) k).drop (cutAt Y) = (fl[k]'(by rw [h.nf]; exact hk)).drop (cutAt Y)) := by
  have hf : ∀ i, keptLen keep T Y i ≤ 512 := fun i => by
    unfold keptLen
    split
    · omega
    · split <;> omega
  have hc := sec_crashB (f := keptLen keep T Y) (k := k) hok.len hok.M hn hf D.M.length
  have e1 := h.f k hk
  have e2 := h.l k hk
  rw [List.getElem?_eq_getElem (by rw [h.nf]; exact hk)] at e1
  rw [List.getElem?_eq_getElem (by rw [h.nl]; exact hk)] at e2
  simp only [Option.some.injEq] at e1 e2
  rw [e1, e2]
  cases hg : cget D.M (k : Int) with
  | none => exact .inl (hc.2 fun i p _ hp => cget_none_at hg i p hp)
  | some x =>
    obtain ⟨i, hi, hx⟩ := cget_some_at hg
    have hxl := (hok.M _ (List.mem_of_getElem? hx)).2.2
    simp only at hxl
    have hsl := sec_len hok.len hk
    rw [hc.1 i x hi hx, Option.getD_some]
    have hkl : keptLen keep T Y i = 0 ∨ keptLen keep T Y i = 512 ∨ ((i : Int) = T ∧ keptLen keep T Y i = cutAt Y) := by
      unfold keptLen
      by_cases ht : (i : Int) = T ∧ 0 ≤ Y ∧ Y ≤ 512
      · rw [if_pos ht]
        refine .inr (.inr ⟨ht.1, ?_⟩)
        unfold cutAt
        omega
      · rw [if_neg ht]
        split
        · exact .inr (.inl rfl)
        · exact .inl rfl
    rcases hkl with e | e | ⟨e0, e⟩
    · rw [e]; left; simp
    · rw [e]; right; left; rw [List.take_of_length_le (by omega), List.drop_of_length_le (by omega), List.append_nil]
    · rw [e]
      right; right
      have hcl := cutAt_le Y
      refine ⟨?_, ?_, ?_⟩
      · unfold tornAt
        rw [if_pos (by omega), ← e0, Int.toNat_natCast, hx]; rfl
      · rw [List.take_append_of_le_length (by rw [List.length_take]; omega), List.take_take, Nat.min_self]
      · rw [List.drop_append, List.length_take, show cutAt Y - min (cutAt Y) x.length = 0 by omega, List.drop_zero, List.drop_of_length_le (by rw [List.length_take]; omega), List.nil_append]
/-- At most one sector is torn. -/
def TornN (M : List (Int × List Byte)) (T : Int) (j c : Nat) : Prop := c = 0 ∨ (c = 1 ∧ ∃ i : Nat, i < j ∧ tornAt M T = some (i : Int))
theorem TornN.le {M : List (Int × List Byte)} {T : Int} {j c : Nat} (h : TornN M T j c) : c ≤ 1 := by
  rcases h with rfl | ⟨rfl, -⟩ <;> omega
theorem TornN.same {M : List (Int × List Byte)} {T : Int} {j c : Nat} (h : TornN M T j c) : TornN M T (j + 1) c := by
  rcases h with rfl | ⟨rfl, i, hi, h⟩
  · exact .inl rfl
  · exact .inr ⟨rfl, i, by omega, h⟩
theorem TornN.more {M : List (Int × List Byte)} {T : Int} {j c : Nat} (h : TornN M T j c) (ht : tornAt M T = some (j : Int)) : TornN M T (j + 1) (c + 1) := by
  rcases h with rfl | ⟨rfl, i, hi, h⟩
  · exact .inr ⟨rfl, j, by omega, ht⟩
  · rw [ht] at h; simp only [Option.some.injEq] at h; omega
end Go.Proofs.YtihljjfnjclefaaDoor
/- Lists of bytes in memory ([][]byte) that the call made: a block of slices, whose bytes lie outside some blocks. -/
set_option linter.unusedVariables false
set_option linter.unusedSimpArgs false
namespace Go.Proofs.YtihljjfnjclefaaDoor
open Go.ChangeShapes Go.WideShapes Go.ChangeAt Go.RowKit Go.MapKept

theorem info_bs : (Tryd.prog.info? 23).map (fun i => (i.zero, i.size, i.bytes)) = some (some (.slice none 0 0), 1, 24) := by kernel_rfl
/-- Block g holds slices that read as ls; their bytes lie outside X. -/
def RowsAt (w : World) (X : List Nat) (g : Nat) (ls : List (List Byte)) : Prop :=
  ∃ cs : Array Value, w.heap[g]? = some (.cells cs 23 (0, 0)) ∧ cs.size = ls.length ∧ g ∈ X ∧
    ∀ i (h : i < ls.length), ∃ A c, cs[i]? = some (.slice A ls[i].length c) ∧ ls[i].length ≤ c ∧ c ≤ maxLen ∧ Rd w A ls[i] ∧ ∀ ad, A = some ad → ad.block ∉ X ∧ ad.block < w.heap.size
section
variable {w w' : World} {X X' F : List Nat} {g : Nat} {ls : List (List Byte)}
theorem RowsAt.lt (h : RowsAt w X g ls) : g < w.heap.size := by
  obtain ⟨cs, h1, -⟩ := h
  exact (Array.getElem?_eq_some_iff.1 h1).1
theorem RowsAt.ts (h : RowsAt w X g ls) (k : TS F w w') (hg : g ∉ F) (hF : ∀ x ∈ F, x ∈ X) : RowsAt w' X g ls := by
  obtain ⟨cs, h1, h2, h3, h4⟩ := h
  refine ⟨cs, (k.block g (Array.getElem?_eq_some_iff.1 h1).1 hg).trans h1, h2, h3, fun i hi => ?_⟩
  obtain ⟨A, c, e1, e2, e3, e4, e5⟩ := h4 i hi
  exact ⟨A, c, e1, e2, e3, k.rd e4 (fun ad ha hf => (e5 ad ha).1 (hF _ hf)), fun ad ha => ⟨(e5 ad ha).1, Nat.lt_of_lt_of_le (e5 ad ha).2 k.size⟩⟩
theorem RowsAt.fb (h : RowsAt w X g ls) (k : FB w w') : RowsAt w' X g ls := h.ts (TS.of (F := []) k) (by simp) (by simp)
theorem RowsAt.widen (h : RowsAt w X g ls) (hX : ∀ x ∈ X', x ∈ X ∨ w.heap.size ≤ x) (hg : g ∈ X') : RowsAt w X' g ls := by
  obtain ⟨cs, h1, h2, h3, h4⟩ := h
  refine ⟨cs, h1, h2, hg, fun i hi => ?_⟩
  obtain ⟨A, c, e1, e2, e3, e4, e5⟩ := h4 i hi
  refine ⟨A, c, e1, e2, e3, e4, fun ad ha => ⟨fun hm => ?_, (e5 ad ha).2⟩⟩
  rcases hX _ hm with hm | hm
  · exact (e5 ad ha).1 hm
  · have := (e5 ad ha).2; omega
theorem RowsAt.get (h : RowsAt w X g ls) (i : Nat) (hi : i < ls.length) : ∃ A c, w.cell? ⟨g, i, none⟩ = some (.slice A ls[i].length c) ∧ ls[i].length ≤ c ∧ c ≤ maxLen ∧ Rd w A ls[i] ∧ w.frozen? ⟨g, i, none⟩ = false ∧ ∀ ad, A = some ad → ad.block ∉ X := by
  obtain ⟨cs, h1, h2, h3, h4⟩ := h
  obtain ⟨A, c, e1, e2, e3, e4, e5⟩ := h4 i hi
  exact ⟨A, c, by rw [cell_of_row _ _ _ _ _ _ h1]; exact e1, e2, e3, e4, frozen_row _ h1 i, fun ad ha => (e5 ad ha).1⟩
/-- A row laid at a place. -/
theorem RowsAt.set (h : RowsAt w X g ls) (i : Nat) (hi : i < ls.length) {A : Option Addr} {c : Nat} {xs : List Byte} (hr : Rd w A xs) (h1 : xs.length ≤ c) (h2 : c ≤ maxLen) (hA : ∀ ad, A = some ad → ad.block ∉ X ∧ ad.block < w.heap.size) :
    RowsAt (w.setCell ⟨g, i, none⟩ (.slice A xs.length c)) X g (ls.set i xs) ∧ TB g w (w.setCell ⟨g, i, none⟩ (.slice A xs.length c)) := by
  obtain ⟨cs, k1, k2, k3, k4⟩ := h
  have htb : TB g w (w.setCell ⟨g, i, none⟩ (.slice A xs.length c)) := TB.set w i _
  have hts : TS [g] w (w.setCell ⟨g, i, none⟩ (.slice A xs.length c)) := TS.tb htb (by simp)
  refine ⟨⟨cs.setIfInBounds i (.slice A xs.length c), ?_, by simp [k2], k3, fun j hj => ?_⟩, htb⟩
  · rw [heap_setCell_same _ _ _ _ _ _ k1]
  · rw [List.length_set] at hj
    by_cases e : i = j
    · subst e
      refine ⟨A, c, ?_, by simpa using h1, h2, ?_, fun ad ha => ⟨(hA ad ha).1, by simpa using (hA ad ha).2⟩⟩
      · simp [k2, hi]
      · simp only [List.getElem_set_self]
        exact hts.rd hr (fun ad ha hm => (hA ad ha).1 (by simp at hm; rw [hm]; exact k3))
    · obtain ⟨A', c', e1, e2, e3, e4, e5⟩ := k4 j hj
      simp only [List.getElem_set_ne e]
      refine ⟨A', c', ?_, e2, e3, hts.rd e4 (fun ad ha hm => (e5 ad ha).1 (by simp at hm; rw [hm]; exact k3)), fun ad ha => ⟨(e5 ad ha).1, by simpa using (e5 ad ha).2⟩⟩
      rw [Array.getElem?_setIfInBounds_ne e]; exact e1
/-- All rows copied onto as many. -/
theorem RowsAt.copy {gs : Nat} {us : List (List Byte)} (h : RowsAt w X g ls) (hs : RowsAt w X gs us) (hl : ls.length = us.length) (n : Nat) (hn : n = us.length) (ca cb : Nat) :
    ∃ w', (∀ ty, (Builtin.copy_ #[37, 37] ty #[.slice (some ⟨g, 0, none⟩) n ca, .slice (some ⟨gs, 0, none⟩) n cb]).run Tryd.prog w = .ok (goInt n) w') ∧ RowsAt w' X g us ∧ TB g w w' := by
  subst hn
  obtain ⟨cs, k1, k2, k3, k4⟩ := h
  obtain ⟨ds, q1, q2, q3, q4⟩ := hs
  obtain ⟨i, hi, _, hsz, _⟩ := info_parts info_bs
  have hsz1 : (Tryd.prog.info? 23).map (·.size) = some 1 := by rw [hi]; simp [hsz]
  have hone : ∀ v ∈ ds.toList, v.oneCell' = true := fun v hv => by
    obtain ⟨j, hj⟩ := List.getElem?_of_mem hv
    have hjl := (List.getElem?_eq_some_iff.1 hj).1
    obtain ⟨A, c, e1, -⟩ := q4 j (by simp at hjl; omega)
    rw [Array.getElem?_toList, e1] at hj
    cases hj; rfl
  have hrun := fun ty => run_copy_row (P := Tryd.prog) w 37 37 ty 23 g 0 us.length ca ⟨gs, 0, none⟩ us.length cb cs 23 ds.toList Tryd.underlying37 hsz1 k1 (by simp [q2]) (fun j v hj => by
    rw [show (⟨gs, 0, none⟩ : Addr).add j = ⟨gs, j, none⟩ from by unfold Addr.add; split <;> simp_all, cell_of_row _ _ _ _ _ _ q1]
    simpa using hj) (by simp; omega) hone
  rw [show ds.toList.length = us.length from by simp [q2]] at hrun
  refine ⟨_, hrun, ?_, TB.row _ _ _⟩
  have hts := TS.tb (F := [g]) (TB.row g w (cs.toList.take 0 ++ ds.toList ++ cs.toList.drop (0 + us.length)).toArray) (by simp)
  have hrow := setRow_heap w g cs (cs.toList.take 0 ++ ds.toList ++ cs.toList.drop (0 + us.length)).toArray _ _ k1
  have hsame : (cs.toList.take 0 ++ ds.toList ++ cs.toList.drop (0 + us.length)).toArray = ds := by
    rw [List.take_zero, List.nil_append, List.drop_of_length_le (by simp; omega), List.append_nil]
  rw [hsame] at hrow hts ⊢
  refine ⟨ds, hrow, q2, k3, fun j hj => ?_⟩
  obtain ⟨A, c, e1, e2, e3, e4, e5⟩ := q4 j hj
  exact ⟨A, c, e1, e2, e3, hts.rd e4 (fun ad ha hm => (e5 ad ha).1 (by simp at hm; rw [hm]; exact k3)), fun ad ha => ⟨(e5 ad ha).1, Nat.lt_of_lt_of_le (e5 ad ha).2 hts.size⟩⟩
end
/-- make([][]byte, n). -/
theorem mk_rows (n : Nat) (hn : n ≤ 100000000) : ∃ C : Array Value,
    (∀ W : World, (Instr.makeSlice 37 (.int .i64 (n : Int)) (.int .i64 (n : Int))).run Tryd.prog W = .ok (.slice (some ⟨W.heap.size, 0, none⟩) n n) (W.alloc (.cells C 23))) ∧
    C = (List.replicate n (Value.slice none 0 0)).toArray := by
  obtain ⟨i, hi, hz, hsz, hb⟩ := info_parts info_bs
  refine ⟨madeCells #[.slice none 0 0] n, fun W => ?_, ?_⟩
  · have h := run_make (P := Tryd.prog) W 37 23 i _ Tryd.underlying37 hi hz .i64 .i64 (n : Int) (n : Int) (by omega) (Int.le_refl _) (by rw [hb]; omega) (by omega)
    rw [hsz] at h
    simpa [Value.cells] using h
  · rw [← toList_madeCells_one]
theorem RowsAt.mk {w : World} {X : List Nat} {n : Nat} {C : Array Value} (hC : C = (List.replicate n (Value.slice none 0 0)).toArray) (hg : w.heap.size ∈ X) : RowsAt (w.alloc (.cells C 23)) X w.heap.size (List.replicate n []) := by
  subst hC
  refine ⟨_, heap_alloc_new _ _, by simp, hg, fun i hi => ⟨none, 0, ?_, by simp, by simp [maxLen], ?_, fun ad ha => by cases ha⟩⟩
  · rw [List.length_replicate] at hi
    simp [hi]
  · simp only [List.getElem_replicate]; exact Rd.nil _ _
end Go.Proofs.YtihljjfnjclefaaDoor
/- The reference's disk: its blocks; the walks through New, Sectors, fails, find. -/
set_option linter.unusedVariables false
set_option linter.unusedSimpArgs false
namespace Go.Proofs.YtihljjfnjclefaaDoor
open Go.ChangeShapes Go.WideShapes Go.ChangeAt Go.RowKit Go.MapKept

/-- The fuse as a number. -/
def fzi : Option Int → Int
  | none => -1
  | some z => z
def rctl (g gb : Nat) (NA CA : Option Addr) : List Nat := [g, gb] ++ (optBlk NA ++ optBlk CA)
structure RD (w : World) (F : List Nat) (g n gb c : Nat) (NA : Option Addr) (nc : Nat) (CA : Option Addr) (cc : Nat) (V : List (Int × Value)) (D : DiskSt) : Prop where
  row : w.heap[g]? = some (.cells #[.slice (some ⟨gb, 0, none⟩) (512 * n) c, .slice NA D.M.length nc, .slice CA D.M.length cc, .int .i64 (fzi D.fuse)] 80 (0, 0))
  bytes : Own w 0 (.slice (some ⟨gb, 0, none⟩) (512 * n) c) D.b
  keys : OwnV 3 w 0 (.slice NA D.M.length nc) (D.M.map fun p => .int .i64 p.1)
  rows : OwnV 23 w 0 (.slice CA D.M.length cc) (V.map (·.2))
  vals : Vals w F (rctl g gb NA CA) V D.M
  nodup : (rctl g gb NA CA).Nodup
  mem : ∀ x ∈ rctl g gb NA CA, x ∈ F
  lt : ∀ x ∈ F, x < w.heap.size
  ok : D.ok n
  nd : (D.M.map (·.1)).Nodup
def RDsk (w : World) (F : List Nat) (g n : Nat) (D : DiskSt) : Prop := ∃ (gb c : Nat) (NA : Option Addr) (nc : Nat) (CA : Option Addr) (cc : Nat) (V : List (Int × Value)), RD w F g n gb c NA nc CA cc V D
def RRes (w : World) (F : List Nat) (g n : Nat) (D : DiskSt) (w' : World) : Prop := ∃ F', (∀ x ∈ F', x ∈ F ∨ w.heap.size ≤ x) ∧ RDsk w' F' g n D ∧ TS F w w'
section
variable {w w' : World} {F F' : List Nat} {g n gb c : Nat} {NA : Option Addr} {nc : Nat} {CA : Option Addr} {cc : Nat} {V : List (Int × Value)} {D : DiskSt}
theorem own_out {A : Option Addr} {n c k : Nat} (h : (Value.slice A n c).ownBlock = some k) : k ∈ optBlk A := by
  cases A with
  | none => cases h
  | some ad => cases h; simp [optBlk]
theorem RD.ts (h : RD w F g n gb c NA nc CA cc V D) (k : TS F' w w') (hd : ∀ x ∈ F', x ∉ F) : RD w' F g n gb c NA nc CA cc V D := by
  have hn : ∀ x ∈ rctl g gb NA CA, x ∉ F' := fun x hx hf => hd x hf (h.mem x hx)
  refine ⟨?_, ?_, ?_, ?_, ?_, h.nodup, h.mem, fun x hx => Nat.lt_of_lt_of_le (h.lt x hx) k.size, h.ok, h.nd⟩
  · rw [k.block g (Array.getElem?_eq_some_iff.1 h.row).1 (hn g (by simp [rctl]))]; exact h.row
  · exact k.ownV h.bytes (fun b hb => by cases hb; exact hn gb (by simp [rctl]))
  · exact k.ownV h.keys (fun b hb => hn b (by simp [rctl, own_out hb]))
  · exact k.ownV h.rows (fun b hb => hn b (by simp [rctl, own_out hb]))
  · exact h.vals.move (fun A x hr hb => k.rd hr (fun ad ha hf => hd _ hf (hb ad ha).1)) (fun b h h' => ⟨h, h'⟩)
theorem RDsk.ts (h : RDsk w F g n D) (k : TS F' w w') (hd : ∀ x ∈ F', x ∉ F) : RDsk w' F g n D := by
  obtain ⟨gb, c, NA, nc, CA, cc, V, h⟩ := h
  exact ⟨gb, c, NA, nc, CA, cc, V, h.ts k hd⟩
theorem RDsk.fb (h : RDsk w F g n D) (k : FB w w') : RDsk w' F g n D := h.ts (F' := []) (TS.of k) (by simp)
theorem RD.fb (h : RD w F g n gb c NA nc CA cc V D) (k : FB w w') : RD w' F g n gb c NA nc CA cc V D := h.ts (F' := []) (TS.of k) (by simp)
theorem RDsk.lt (h : RDsk w F g n D) : ∀ x ∈ F, x < w.heap.size := by obtain ⟨gb, c, NA, nc, CA, cc, V, h⟩ := h; exact h.lt
theorem RDsk.mem (h : RDsk w F g n D) : g ∈ F := by obtain ⟨gb, c, NA, nc, CA, cc, V, h⟩ := h; exact h.mem g (by simp [rctl])
theorem RDsk.ok (h : RDsk w F g n D) : D.ok n := by obtain ⟨gb, c, NA, nc, CA, cc, V, h⟩ := h; exact h.ok
theorem RDsk.nd (h : RDsk w F g n D) : (D.M.map (·.1)).Nodup := by obtain ⟨gb, c, NA, nc, CA, cc, V, h⟩ := h; exact h.nd
theorem RD.mlen (h : RD w F g n gb c NA nc CA cc V D) : D.M.length ≤ n := by
  have := keys_len n (D.M.map (·.1)) h.nd (fun x hx => by
    obtain ⟨p, hp, rfl⟩ := List.mem_map.1 hx
    have := h.ok.M p hp
    exact ⟨this.1, this.2.1⟩)
  rwa [List.length_map] at this
theorem RDsk.mlen (h : RDsk w F g n D) : D.M.length ≤ n := by obtain ⟨gb, c, NA, nc, CA, cc, V, h⟩ := h; exact h.mlen
theorem fzi_ge (h : D.ok n) : -1 ≤ fzi D.fuse ∧ fzi D.fuse ≤ 9223372036854775807 := by
  cases hf : D.fuse with
  | none => simp [fzi]
  | some z => have := h.f z hf; simp [fzi]; omega
/-- The fuse written. -/
theorem RD.refuse (h : RD w F g n gb c NA nc CA cc V D) (f : Option Int) (hf : ∀ z, f = some z → 0 ≤ z ∧ z ≤ 9223372036854775807) (z : Int) (hz : z = fzi f) :
    RD (w.setCell ⟨g, 3, none⟩ (.int .i64 z)) F g n gb c NA nc CA cc V { D with fuse := f } ∧ TS F w (w.setCell ⟨g, 3, none⟩ (.int .i64 z)) := by
  subst hz
  have htb : TB g w (w.setCell ⟨g, 3, none⟩ (.int .i64 (fzi f))) := TB.set w 3 _
  have hts : TS [g] w (w.setCell ⟨g, 3, none⟩ (.int .i64 (fzi f))) := TS.tb htb (by simp)
  have hnd := h.nodup
  have hne : ∀ x ∈ [gb] ++ (optBlk NA ++ optBlk CA), x ∉ [g] := by
    intro x hx hl
    simp only [List.mem_singleton] at hl
    subst hl
    simp only [rctl, List.cons_append, List.nil_append, List.nodup_cons] at hnd
    exact hnd.1 (by simpa using hx)
  refine ⟨⟨?_, ?_, ?_, ?_, ?_, h.nodup, h.mem, fun x hx => by simpa using h.lt x hx, ⟨h.ok.len, h.ok.n1, h.ok.n2, h.ok.M, hf⟩, h.nd⟩, TS.tb htb (h.mem g (by simp [rctl]))⟩
  · rw [heap_setCell_same _ _ _ _ _ _ h.row]; rfl
  · exact hts.ownV h.bytes (fun b hb => by cases hb; exact hne gb (by simp))
  · exact hts.ownV h.keys (fun b hb => hne b (by simp [own_out hb]))
  · exact hts.ownV h.rows (fun b hb => hne b (by simp [own_out hb]))
  · exact h.vals.move (fun A x hr hb => hts.rd hr (fun ad ha hf => (hb ad ha).2 (by simp at hf; simp [rctl, hf]))) (fun b h h' => ⟨h, h'⟩)
end
/-- A sector's place in the cache. -/
def cfi : List (Int × List Byte) → Int → Option Nat
  | [], _ => none
  | (k', _) :: M, k => if k' = k then some 0 else (cfi M k).map (· + 1)
def cfiZ (M : List (Int × List Byte)) (k : Int) : Int := match cfi M k with | none => -1 | some i => (i : Int)
theorem cfi_spec : ∀ (M : List (Int × List Byte)) (k : Int), (cfi M k = none ∧ cget M k = none ∧ (∀ x, cput M k x = M ++ [(k, x)]) ∧ ∀ (j : Nat) p, M[j]? = some p → p.1 ≠ k) ∨
    (∃ i x, cfi M k = some i ∧ i < M.length ∧ M[i]? = some (k, x) ∧ cget M k = some x ∧ (∀ y, cput M k y = M.set i (k, y)) ∧ ∀ (j : Nat) p, j < i → M[j]? = some p → p.1 ≠ k)
  | [], k => .inl ⟨rfl, rfl, fun _ => rfl, fun j p h => by simp at h⟩
  | (pk, pv) :: M, k => by
    by_cases h : pk = k
    · subst h
      refine .inr ⟨0, pv, by simp [cfi], by simp, rfl, by simp [cget], fun y => by simp [cput], fun j p hj => absurd hj (by omega)⟩
    · rcases cfi_spec M k with ⟨h1, h2, h3, h4⟩ | ⟨i, x, h1, h2, h3, h4, h5, h6⟩
      · refine .inl ⟨by simp [cfi, h, h1], by simp [cget, h, h2], fun x => by simp [cput, h, h3], fun j p hp => ?_⟩
        cases j with
        | zero => simp at hp; subst hp; exact h
        | succ j => exact h4 j p (by simpa using hp)
      · refine .inr ⟨i + 1, x, by simp [cfi, h, h1], by simpa using h2, by simpa using h3, by simp [cget, h, h4], fun y => by simp [cput, h, h5], fun j p hj hp => ?_⟩
        cases j with
        | zero => simp at hp; subst hp; exact h
        | succ j => exact h6 j p (by omega) (by simpa using hp)
set_option maxRecDepth 100000
section
variable {w : World} {F : List Nat} {g n : Nat} {D : DiskSt}
set_option maxHeartbeats 400000 in
theorem ref_Sectors (h : RDsk w F g n D) : Calls Tryd.prog 59 #[.pointer (some ⟨g, 0, none⟩)] w fun e w' => e = .returned (.int .i64 (n : Int)) ∧ w = w' := by
  obtain ⟨gb, c, NA, nc, CA, cc, V, h⟩ := h
  obtain ⟨q0, q1, q2, q3⟩ := row4 h.row
  have hn := h.ok.n2
  have hq : (((512 * n : Nat) : Int)).tdiv 512 = (n : Int) := by rw [Int.tdiv_eq_ediv_of_nonneg (by omega)]; omega
  have hq2 : (512 * (n : Int)) / 512 = (n : Int) := by omega
  have hq3 : (512 * (n : Int)).tdiv 512 = (n : Int) := by rw [Int.tdiv_eq_ediv_of_nonneg (by omega)]; omega
  have hb : (n : Int) ≤ 32768 := by omega
  clear h hn
  go_enter Tryd.func59, Tryd.ntmps59
  go_wp2
  go_ret
  exact ⟨rfl, rfl⟩
set_option maxHeartbeats 400000 in
theorem ref_fails (h : RDsk w F g n D) : Calls Tryd.prog 72 #[.pointer (some ⟨g, 0, none⟩)] w fun e w' => e = .returned (.bool (ffail D.fuse).1) ∧ RDsk w' F g n { D with fuse := (ffail D.fuse).2 } ∧ TS F w w' := by
  obtain ⟨gb, c, NA, nc, CA, cc, V, h⟩ := h
  obtain ⟨q0, q1, q2, q3⟩ := row4 h.row
  have f3 := frozen_row _ h.row 3
  cases hf : D.fuse with
  | none =>
    have hD : ({ D with fuse := (ffail none).2 } : DiskSt) = D := by cases D; simp only [ffail] at hf ⊢; rw [← hf]
    rw [hD]
    rw [hf] at q3
    have H := Lib.hid h
    clear hf h hD
    unfold fzi at q3
    go_enter Tryd.func72, Tryd.ntmps72
    go_wp2
    go_ret
    exact ⟨rfl, ⟨gb, c, NA, nc, CA, cc, V, H.out⟩, TS.refl _ _⟩
  | some z =>
    have hz := h.ok.f z hf
    obtain ⟨hz0, hz1⟩ := hz
    obtain ⟨h1, h2⟩ := h.refuse (ffail (some z)).2 (fun y hy => by
      by_cases hp : 0 < z
      · simp [ffail, hp] at hy; omega
      · simp [ffail, hp] at hy) (z - 1) (by
      by_cases hp : 0 < z
      · simp [ffail, hp, fzi]
      · simp [ffail, hp, fzi]; omega)
    have H1 := Lib.hid h1
    have H2 := Lib.hid h2
    rw [hf] at q3
    have hneg : ¬ z < 0 := by omega
    have hc : (ffail (some z)).1 = decide (z - 1 < 0) := by
      by_cases hp : 0 < z
      · simp [ffail, hp]; omega
      · simp [ffail, hp]; omega
    rw [hc]
    clear hf h h1 h2 hc
    unfold fzi at q3
    go_enter Tryd.func72, Tryd.ntmps72
    go_wp2
    go_ret
    exact ⟨by simp, ⟨gb, c, NA, nc, CA, cc, V, H1.out⟩, H2.out⟩
set_option maxHeartbeats 1000000 in
theorem ref_find (h : RDsk w F g n D) (k : Int) : Calls Tryd.prog 73 #[.pointer (some ⟨g, 0, none⟩), .int .i64 k] w fun e w' => e = .returned (.int .i64 (cfiZ D.M k)) ∧ w = w' := by
  have HML := Lib.hid (Nat.le_trans h.mlen h.ok.n2)
  obtain ⟨gb, c, NA, nc, CA, cc, V, h⟩ := h
  obtain ⟨q0, q1, q2, q3⟩ := row4 h.row
  have hk := (OwnV.info h.keys).2.2.1
  have HR := Lib.hid (show RdV w NA ((D.M.map (·.1)).map (.int .i64)) from by rw [List.map_map]; exact hk)
  have hsp := Lib.hid (cfi_spec D.M k)
  have hml := HML.out
  generalize hZ : cfiZ D.M k = Z
  have HZ := Lib.hid hZ
  clear h hk hZ
  generalize hM : D.M = M at *
  clear hM
  go_enter Tryd.func73, Tryd.ntmps73
  go_wp2
  go_loop [5] (fun i => ∃ j : Nat, j ≤ M.length ∧ i = .int .i64 j ∧ Hid (∀ (i : Nat) p, i < j → M[i]? = some p → p.1 ≠ k)) (fun i => M.length - (intOf i).toNat)
  case atStart => exact ⟨0, by omega, rfl, fun i p hi => absurd hi (by omega)⟩
  case round =>
    obtain ⟨j, hj, rfl, HT⟩ := hrel
    by_cases hlt : j < M.length
    · have hjx : (j : Int) < (M.length : Int) := by omega
      obtain ⟨b, o, rfl, hq⟩ := RdV.icell HR.out (j := j) (by rw [List.length_map]; exact hlt)
      rw [List.getElem_map] at hq
      have HMJ := Lib.hid (show M[j]? = some M[j] from List.getElem?_eq_getElem hlt)
      generalize M[j] = p at *
      by_cases hpk : p.1 = k
      · have hbe : (p.1 == k) = true := by simp [hpk]
        have HX := Lib.hid (show Z = (j : Int) from by
          rw [← HZ.out]
          rcases hsp.out with ⟨-, -, -, h4⟩ | ⟨i, x, h1, h2, h3, -, -, h6⟩
          · exact absurd hpk (h4 j p HMJ.out)
          · have : i = j := by
              rcases Nat.lt_trichotomy i j with h | h | h
              · exact absurd rfl (HT.out i _ h h3)
              · exact h
              · exact absurd hpk (h6 j p h HMJ.out)
            unfold cfiZ
            rw [h1, this])
        clear hpk
        go_wp2
        go_ret
        exact ⟨by rw [HX.out]; rfl, rfl⟩
      · have hbe : (p.1 == k) = false := by simpa using hpk
        have HT2 := Lib.hid (show ∀ (i : Nat) q, i < j + 1 → M[i]? = some q → q.1 ≠ k from fun i q hi hq2 => by
          by_cases e : i = j
          · subst e; rw [HMJ.out] at hq2; cases hq2; exact hpk
          · exact HT.out i q (by omega) hq2)
        clear hpk
        go_wp2
        go_round
        case rel => exact ⟨j + 1, by omega, by go_num, HT2.out⟩
        case measure => simp [intOf]; omega
    · obtain rfl : j = M.length := by omega
      have hjx : ¬ (M.length : Int) < (M.length : Int) := by omega
      have HX := Lib.hid (show Z = -1 from by
        rw [← HZ.out]
        rcases hsp.out with ⟨h1, -⟩ | ⟨i, x, h1, h2, h3, -⟩
        · unfold cfiZ; rw [h1]
        · exact absurd rfl (HT.out i _ h2 h3))
      go_wp2
      go_ret
      exact ⟨by rw [HX.out]; rfl, rfl⟩
end
end Go.Proofs.YtihljjfnjclefaaDoor
/- The reference's disk: the walks through New, Read, Fail, Cached, Image. -/
set_option linter.unusedVariables false
set_option linter.unusedSimpArgs false
namespace Go.Proofs.YtihljjfnjclefaaDoor
open Go.ChangeShapes Go.WideShapes Go.ChangeAt Go.RowKit Go.MapKept
set_option maxRecDepth 100000

theorem RDsk.new {w w1 : World} {n gb c : Nat} {xs : List Byte} (ho : Own w1 w.heap.size (.slice (some ⟨gb, 0, none⟩) (512 * n) c) xs) (hl : xs.length = 512 * n) (h1 : 1 ≤ n) (h2 : n ≤ 32768) :
    RDsk (w1.alloc (.cells #[.slice (some ⟨gb, 0, none⟩) (512 * n) c, .slice none 0 0, .slice none 0 0, .int .i64 (-1)] 80)) [w1.heap.size, gb] w1.heap.size n ⟨xs, [], none⟩ := by
  have hgb := OwnV.base ho gb rfl
  refine ⟨gb, c, none, 0, none, 0, [], ⟨?_, ?_, ?_, ?_, .nil, ?_, ?_, ?_, ⟨hl, h1, h2, by simp, by simp⟩, by simp⟩⟩
  · exact heap_alloc_new _ _
  · exact (ho.alloc _).lower (Nat.zero_le _)
  · exact OwnV.nil _ _ _
  · exact OwnV.nil _ _ _
  · simp [rctl, optBlk]; omega
  · simp [rctl, optBlk]
  · intro x hx
    simp at hx ⊢
    omega
set_option maxHeartbeats 1000000 in
theorem ref_New_ok (n : Nat) (h1 : 1 ≤ n) (h2 : n ≤ 32768) (w : World) :
    Calls Tryd.prog 27 #[.int .i64 (n : Int)] w fun e w' => ∃ F g, e = .returned (.tuple #[.pointer (some ⟨g, 0, none⟩), .int .i64 0]) ∧ RDsk w' F g n ⟨List.replicate (512 * n) 0#8, [], none⟩ ∧ FB w w' ∧ (∀ x ∈ F, w.heap.size ≤ x) := by
  obtain ⟨C, hmk, hC⟩ := mk_bytes ((n : Int) * 512) (512 * n) (by omega) (by omega)
  have hw1 : IntKind.i64.wrap ((n : Int) * 512) = (n : Int) * 512 := by rw [IntKind.wrap_i64]; omega
  have hb1 : ¬ (n : Int) < 1 := by omega
  have hb2 : ¬ 32768 < (n : Int) := by omega
  have HO := Lib.hid (show Own (w.alloc (.cells C 5)) w.heap.size (.slice (some ⟨w.heap.size, 0, none⟩) (512 * n) (512 * n)) (List.replicate (512 * n) 0#8) from by
    have := OwnV.lit 5 w (vbs (List.replicate (512 * n) 0#8)) (by rw [vbs_length, List.length_replicate]; simp [maxLen]; omega)
    rw [← hC, vbs_length, List.length_replicate] at this
    exact this)
  have HD := Lib.hid (RDsk.new HO.out (by rw [List.length_replicate]) h1 h2)
  have HF := Lib.hid (((FB.refl w).alloc (.cells C 5)).alloc (.cells #[.slice (some ⟨w.heap.size, 0, none⟩) (512 * n) (512 * n), .slice none 0 0, .slice none 0 0, .int .i64 (-1)] 80))
  have hsz : (w.alloc (.cells C 5)).heap.size = w.heap.size + 1 := by simp
  have HSZ := Lib.hid hsz
  rw [hsz] at HD
  clear hC hsz
  go_enter Tryd.func27, Tryd.ntmps27
  go_wp2
  go_ret2
  refine ⟨_, _, ?_, HD.out, HF.out, ?_⟩
  · first | rfl | simp
  · intro x hx
    simp at hx
    omega
set_option maxHeartbeats 1000000 in
theorem ref_New_bad (z : Int) (h : z < 1 ∨ 32768 < z) (w : World) :
    Calls Tryd.prog 27 #[.int .i64 z] w fun e w' => e = .returned (.tuple #[.pointer none, .int .i64 2]) ∧ w = w' := by
  have hcase : z < 1 ∨ (¬ z < 1 ∧ 32768 < z) := by omega
  clear h
  rcases hcase with h | ⟨h, h'⟩
  all_goals
    go_enter Tryd.func27, Tryd.ntmps27
    go_wp2
    go_ret2
    exact ⟨rfl, rfl⟩
section
variable {w : World} {F : List Nat} {g n : Nat} {D : DiskSt}
set_option maxHeartbeats 1000000 in
theorem ref_Fail (h : RDsk w F g n D) (z : Int) (hz : z ≤ 9223372036854775807) : Calls Tryd.prog 29 #[.pointer (some ⟨g, 0, none⟩), .int .i64 z] w fun e w' => e = .returned (.int .i64 0) ∧ RRes w F g n { D with fuse := if 0 ≤ z then some z else none } w' := by
  obtain ⟨gb, c, NA, nc, CA, cc, V, h⟩ := h
  obtain ⟨q0, q1, q2, q3⟩ := row4 h.row
  have f3 := frozen_row _ h.row 3
  by_cases h0 : 0 ≤ z
  · rw [if_pos h0]
    obtain ⟨h1, h2⟩ := h.refuse (some z) (fun y hy => by cases hy; exact ⟨h0, hz⟩) z rfl
    have H1 := Lib.hid h1
    have H2 := Lib.hid h2
    have hb : (-1 : Int) ≤ z := by omega
    have hb2 : (-1 : Int) < z := by omega
    clear h h1 h2
    go_enter Tryd.func29, Tryd.ntmps29
    go_wp2
    go_ret
    exact ⟨rfl, F, fun x hx => .inl hx, ⟨gb, c, NA, nc, CA, cc, V, H1.out⟩, H2.out⟩
  · rw [if_neg h0]
    obtain ⟨h1, h2⟩ := h.refuse none (fun y hy => by cases hy) (-1) rfl
    have H1 := Lib.hid h1
    have H2 := Lib.hid h2
    have hb2 : ¬ (-1 : Int) < z := by omega
    have hb3 : z ≤ (-1 : Int) := by omega
    clear h h1 h2
    go_enter Tryd.func29, Tryd.ntmps29
    go_wp2
    go_ret
    exact ⟨rfl, F, fun x hx => .inl hx, ⟨gb, c, NA, nc, CA, cc, V, H1.out⟩, H2.out⟩
set_option maxHeartbeats 1000000 in
theorem ref_Image (h : RDsk w F g n D) : Calls Tryd.prog 36 #[.pointer (some ⟨g, 0, none⟩)] w fun e w' => ∃ A c, e = .returned (.slice A (512 * n) c) ∧ Rd w' A D.b ∧ FB w w' := by
  obtain ⟨gb, c, NA, nc, CA, cc, V, h⟩ := h
  obtain ⟨q0, q1, q2, q3⟩ := row4 (h.fb ((FB.refl w).alloc (.cells #[] 5))).row
  have HL := Lib.hid h.ok.len
  have HR := Lib.hid (Own.info h.bytes).2.2.1
  have hn2 := h.ok.n2
  rw [← HL.out] at q0
  clear h
  go_enter Tryd.func36, Tryd.ntmps36
  go_wp2_with (at_builtin; refine wpList_append_bytes rfl _ _ rfl w.heap.size _ [] (OwnV.lit _ w [] (by simp)) rfl _ c D.b rfl (HR.out.alloc _) (by have := HL.out; simp; omega) (by simp) ?_; intro v' w1 ho hg _; have HO := Lib.hid ho; have HG := Lib.hid hg; clear ho hg)
  go_ret
  have ho := HO.out
  rw [List.nil_append] at ho
  obtain ⟨A', c', e1, _⟩ := ho.form
  rw [e1] at ho
  exact ⟨A', c', by simp [e1, HL.out], (Own.info ho).2.2.1, ((FB.refl w).alloc _).grown HG.out (by simp [Value.ownBlock])⟩
set_option maxHeartbeats 1000000 in
theorem ref_Cached (h : RDsk w F g n D) : Calls Tryd.prog 35 #[.pointer (some ⟨g, 0, none⟩)] w fun e w' => ∃ A c, e = .returned (.slice A D.M.length c) ∧ RdV w' A ((D.M.map (·.1)).map (.int .i64)) ∧ FB w w' := by
  have HML := Lib.hid (Nat.le_trans h.mlen h.ok.n2)
  obtain ⟨gb, c, NA, nc, CA, cc, V, h⟩ := h
  obtain ⟨q0, q1, q2, q3⟩ := row4 (h.fb ((FB.refl w).alloc (.cells #[] 3))).row
  have HR := Lib.hid (show RdV w NA ((D.M.map (·.1)).map (.int .i64)) from by rw [List.map_map]; exact (OwnV.info h.keys).2.2.1)
  clear h
  go_enter Tryd.func35, Tryd.ntmps35
  go_wp2_with (at_builtin; refine wpList_append_any rfl _ _ 48 3 8 (.int .i64 0) Tryd.underlying48 info_int rfl rfl w.heap.size _ [] (OwnV.lit _ w [] (by simp)) rfl NA D.M.length nc ((D.M.map (·.1)).map (.int .i64)) (by simp) rfl (HR.out.alloc _) (fun u hu => by obtain ⟨b, -, rfl⟩ := List.mem_map.1 hu; rfl) (by have := HML.out; simp [maxLen]; omega) (by have := HML.out; simp; omega) (by simp) ?_; intro v' w1 ho hg _; have HO := Lib.hid ho; have HG := Lib.hid hg; clear ho hg)
  go_ret
  have ho := HO.out
  rw [List.nil_append] at ho
  obtain ⟨A', c', e1, -, -, h3, h4⟩ := OwnV.form ho
  rw [List.length_map, List.length_map] at e1
  exact ⟨A', c', by simp [e1], h3, ((FB.refl w).alloc _).grown HG.out (by simp [Value.ownBlock])⟩
end
end Go.Proofs.YtihljjfnjclefaaDoor
