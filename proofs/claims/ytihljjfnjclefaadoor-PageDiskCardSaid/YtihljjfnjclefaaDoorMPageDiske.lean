/- page: the walk through Bytes. -/
import Derived.Test.YtihljjfnjclefaaDoorMPageDiska
import Derived.Test.YtihljjfnjclefaaDoorMPageDiskb
import Derived.Test.YtihljjfnjclefaaDoorMPageDiskc
import Derived.Test.YtihljjfnjclefaaDoorMPageDiskd
set_option linter.unusedVariables false
set_option linter.unusedSimpArgs false
namespace Go.Proofs.YtihljjfnjclefaaDoor
open Go.ChangeShapes Go.WideShapes Go.ChangeAt Go.RowKit
attribute [local go_sem] nb_nonneg nb_lt8 nb_lt64
set_option maxRecDepth 100000

def hd8 (k : Byte) (n : BitVec 32) : List Byte := [0x54#8, 0x4d#8, 1#8, k] ++ oword 4 (n.setWidth 64)
theorem hd8_len (k : Byte) (n : BitVec 32) : (hd8 k n).length = 8 := by simp [hd8, oword_len]
theorem pgHd_hd8 (k : Byte) (n : BitVec 32) : pgHd k n = hd8 k n ++ z4 := rfl
def pgB1 (k : Byte) (n : BitVec 32) (x : List Byte) : List Byte := pgHd k n ++ (z4 ++ pgPad x)
theorem pgB1_len (k : Byte) (n : BitVec 32) {x : List Byte} (h : x.length ≤ 4080) : (pgB1 k n x).length = 4096 := by simp [pgB1, pgHd_len, z4, pgPad_len h]
theorem rep_z4 (m : Nat) : List.replicate (m + 4) 0#8 = z4 ++ List.replicate m 0#8 := by
  rw [Nat.add_comm, ← List.replicate_append_replicate]; rfl
theorem pg_splice1 (k : Byte) (n : BitVec 32) {x : List Byte} (h : x.length ≤ 4080) : splice (hd8 k n ++ List.replicate 4088 0#8) 16 x = pgB1 k n x := by
  have e : hd8 k n ++ List.replicate 4088 0#8 = (hd8 k n ++ (z4 ++ z4)) ++ List.replicate 4080 0#8 := by
    rw [show 4088 = (4080 + 4) + 4 from rfl, rep_z4, rep_z4]; simp only [List.append_assoc]
  have l16 : (hd8 k n ++ (z4 ++ z4)).length = 16 := by simp [hd8_len, z4]
  unfold splice pgB1 pgPad
  rw [e, List.take_append_of_le_length (by omega), List.take_of_length_le (by omega), List.drop_append, List.drop_of_length_le (by omega), List.nil_append, List.drop_replicate, pgHd_hd8, l16, show 4080 - (16 + x.length - 16) = 4080 - x.length from by omega]
  simp only [List.append_assoc]
theorem pg_splice2 (k : Byte) (n : BitVec 32) (x : List Byte) {s : List Byte} (h : s.length = 4) : splice (pgB1 k n x) 12 s = pgHd k n ++ (s ++ pgPad x) := by
  have l12 := pgHd_len k n
  unfold splice pgB1
  rw [h, List.take_append_of_le_length (by omega), List.take_of_length_le (by omega), List.drop_append, List.drop_of_length_le (by omega), l12]
  rfl
theorem pgB1_take (k : Byte) (n : BitVec 32) (x : List Byte) : (pgB1 k n x).take 12 = pgHd k n := by
  unfold pgB1; rw [List.take_append_of_le_length (by rw [pgHd_len]; omega), List.take_of_length_le (by rw [pgHd_len]; omega)]
theorem pgB1_drop (k : Byte) (n : BitVec 32) (x : List Byte) : (pgB1 k n x).drop 16 = pgPad x := by
  unfold pgB1
  rw [List.drop_append, List.drop_of_length_le (by rw [pgHd_len]; omega), pgHd_len]
  rfl
/-- Bytes of the call's own, and an error, that are returned. -/
def PgBy (r : List Byte × Int) (w : World) (e : Ending) (w' : World) : Prop :=
  ∃ A c, e = .returned (.tuple #[.slice A r.1.length c, .int .i64 r.2]) ∧ Own w' w.heap.size (.slice A r.1.length c) r.1 ∧ FB w w'
set_option maxHeartbeats 4000000 in
theorem pg_Bytes (K : Int) (n : BitVec 32) (x : List Byte) (A : Option Addr) (c : Nat) (w : World) (hx : x.length ≤ 1000000000) (hr : Rd w A x) :
    Calls Tryd.prog 10 #[.agg #[.int .i64 K, .int .u32 (nb n), .slice A x.length c]] w fun e w' => PgBy (pgB K n x) w e w' := by
  have HF := Lib.hid ((FB.refl w).alloc (.cells #[.int .i64 K, .int .u32 (nb n), .slice A x.length c] 25))
  have HR := Lib.hid hr
  obtain ⟨R, hR⟩ : ∃ R, R = pgB K n x := ⟨_, rfl⟩
  rw [← hR]
  unfold pgB at hR
  clear hr
  by_cases h1 : K < 1
  · obtain rfl : R = ([], 2) := by rw [hR, if_neg (by rw [pgOk_iff]; omega)]
    clear hR
    go_enter Tryd.func10, Tryd.ntmps10
    go_wp2
    go_ret2
    exact ⟨none, 0, rfl, Own.nil _ _, HF.out⟩
  · by_cases h2 : 7 < K
    · obtain rfl : R = ([], 2) := by rw [hR, if_neg (by rw [pgOk_iff]; omega)]
      clear hR
      go_enter Tryd.func10, Tryd.ntmps10
      go_wp2
      go_ret2
      exact ⟨none, 0, rfl, Own.nil _ _, HF.out⟩
    · by_cases h3 : 4080 < x.length
      · obtain rfl : R = ([], 2) := by rw [hR, if_neg (by rw [pgOk_iff]; omega)]
        have h3z : 4080 < (x.length : Int) := by omega
        clear hR h3
        go_enter Tryd.func10, Tryd.ntmps10
        go_wp2
        go_ret2
        exact ⟨none, 0, rfl, Own.nil _ _, HF.out⟩
      · rw [if_pos (pgOk_iff.2 (by omega))] at hR
        have HRR := Lib.hid hR
        have h3z : ¬ 4080 < (x.length : Int) := by omega
        have HX := Lib.hid (show x.length ≤ 4080 from by omega)
        have hwK : IntKind.u8.wrap K = K := by rw [IntKind.wrap_u8]; omega
        have hwn : IntKind.u64.wrap (nb n) = nb n := by rw [wrap_u64]; have := nb_lt32 n; have := nb_nonneg n; omega
        obtain ⟨k, hk⟩ : ∃ k, k = BitVec.ofInt 8 K := ⟨_, rfl⟩
        have HKN := Lib.hid (show nb k = K from by rw [hk]; exact nb_kind (by omega))
        rw [← hk] at HRR
        have HLIT := Lib.hid (show ∀ W : World, Rd (W.alloc (.cells #[.int .u8 84, .int .u8 77, .int .u8 1, .int .u8 K] 5)) (some ⟨W.heap.size, 0, none⟩) [0x54#8, 0x4d#8, 1#8, k] from fun W => by
          unfold Rd
          rw [show vbs [0x54#8, 0x4d#8, 1#8, k] = [.int .u8 84, .int .u8 77, .int .u8 1, .int .u8 K] from by rw [← HKN.out]; rfl]
          exact RdV.lit W [.int .u8 84, .int .u8 77, .int .u8 1, .int .u8 K] 5 rfl)
        have HWD := Lib.hid (fun W => by
          have := oct_Word [0x54#8, 0x4d#8, 1#8, k] (some ⟨W.heap.size, 0, none⟩) 4 4 (n.setWidth 64) 4 (W.alloc (.cells #[.int .u8 84, .int .u8 77, .int .u8 1, .int .u8 K] 5)) rfl (by simp) (by simp [maxLen]) (by simp) (HLIT.out W)
          rw [nb_setWidth n (by omega)] at this
          exact this.mono (fun e w' h => by
            obtain ⟨v, h1, h2, h3⟩ := h
            exact (show ∃ v, e = .returned v ∧ Own w' W.heap.size v (hd8 k n) ∧ FB W w' from ⟨v, h1, h2.lower (by simp), ((FB.refl W).alloc _).call h3⟩)))
        have HBX := Lib.hid (heap_alloc_new w (.cells #[.int .i64 K, .int .u32 (nb n), .slice A x.length c] 25))
        clear hR hk h3
        go_enter Tryd.func10, Tryd.ntmps10
        go_wp2_with fail
        have hcw := HWD.out (w.alloc (.cells #[.int .i64 K, .int .u32 (nb n), .slice A x.length c] 25))
        simp only [World.size_alloc] at hcw
        refine hcw.mono ?_
        rintro e w1 ⟨v, rfl, ho, hb⟩
        obtain ⟨A1, c1, rfl, -, -, -, -⟩ := Own.form ho
        rw [hd8_len] at ho ⊢
        have HF1 := Lib.hid (HF.out.trans hb)
        have HBX1 := Lib.hid ((hb.block _ (Array.getElem?_eq_some_iff.1 HBX.out).1).trans HBX.out)
        have HG1 := Lib.hid (show w.heap.size + 1 ≤ w1.heap.size from by have := hb.le; simpa using this)
        obtain ⟨v2, w2, hrun, ho2, hgr⟩ := run_append_zeros w1 (w.heap.size + 1) _ _ ho (by rw [hd8_len]; omega) 4088 (by omega) (by rw [hd8_len]; omega) HG1.out
        have HRUN := Lib.hid hrun
        have hlo := fun k hk => (OwnV.base ho k hk).1
        have HF2 := Lib.hid (HF1.out.grown hgr (fun k hk => by have := hlo k hk; omega))
        have HBX2 := Lib.hid ((hgr.block _ (Array.getElem?_eq_some_iff.1 HBX1.out).1 (fun e => by have := hlo _ e.symm; omega)).trans HBX1.out)
        obtain ⟨A2, c2, rfl, hc2, hm2, -, -⟩ := Own.form ho2
        have hl2 : (hd8 k n ++ List.replicate 4088 0#8).length = 4096 := by simp [hd8_len]
        rw [hl2] at ho2 hc2 HRUN
        obtain ⟨g, rfl, hg1, -⟩ := OwnV.head0 ho2 (by rw [vbs_length, hl2]; omega)
        have HC2 := Lib.hid (And.intro hc2 hm2)
        have HO2 := Lib.hid ho2
        have HGB := Lib.hid hg1
        clear hcw ho hb hrun hgr hlo ho2 hl2 hc2 hm2 hg1 HWD HLIT HBX HF HBX1 HG1 hwK hwn
        go_upto_region 6 with (at_builtin; refine Lib.wpList_append_run _ rfl _ _ _ _ rfl _ _ rfl rfl _ _ (HRUN.out _) ?_)
        clear HRUN
        have HCF := Lib.hid (show (16 : Int) ≤ (c2 : Int) ∧ (12 : Int) ≤ (c2 : Int) ∧ (c2 : Int) ≤ 9223372036854775807 ∧ 16 < c2 from by have := HC2.out; simp only [maxLen] at this; omega)
        have hf1 := HCF.out.1
        have hf2 := HCF.out.2.1
        have hf3 := HCF.out.2.2.1
        have hf5 : ¬ c2 = 16 := by have := HCF.out; omega
        have hf6 : ¬ c2 = 12 := by have := HCF.out; omega
        obtain ⟨W0, hW0⟩ : ∃ W0 : World, W0 = w2 := ⟨_, rfl⟩
        rw [← hW0]
        refine region_sch (E := TS ([g])) ((0, true) :: (1, true) :: (2, true) :: (3, true) :: (4, false) :: []) (by kernel_rfl) (TS.refl _) (fun _ _ _ h k => TS.then h k) (fun _ _ d _ _ h => by cases d <;> exact h) (by kernel_rfl) ?_
        intro ops hops0
        have hops := Lib.hid hops0
        clear hops0
        have HF : TS ([g]) W0 W0.drew := TS.of (FB.refl _).drew
        have HD : FB W0 W0.drew := (FB.refl _).drew
        generalize W0.drew = wF0 at *
        rw [hW0] at HD
        have HFq := Lib.hid (HF2.out.trans HD)
        have HBq := Lib.hid ((HD.block _ (Array.getElem?_eq_some_iff.1 HBX2.out).1).trans HBX2.out)
        have HOq := Lib.hid (HD.own HO2.out)
        have HK := Lib.hid (prow3 HBq.out).2.2
        have HNG := Lib.hid (show w.heap.size ∉ [g] from by have := HGB.out; simp; omega)
        clear hW0 HD HF HBX2 HO2 HF2
        repeat (refine sch_take (o := ?_) (v := ?_) (a' := ?_) (at_of hops.out ?_) ?_ (fun W hW => ?_) ?_ ?_; rotate_left 3; (focus (simp only [List.getElem?_toArray, List.getElem?_cons_zero, List.getElem?_cons_succ]; rfl)); (focus (rw [hops.out]; rfl)); (focus (have u1 := TS.cell hW HK.out HNG.out; go_simp; with_reducible rfl)); (focus (simp only [Act.put, List.setIfInBounds_toArray, List.set_cons_zero, List.set_cons_succ]; rfl)))
        obtain ⟨w6, hrunc, hoc, htb⟩ := cp_run HOq.out 16 4080 (c2 - 16) A c x (HFq.out.rd HR.out) HX.out (by have := HX.out; simp [hd8_len]; omega)
        rw [pg_splice1 k n HX.out] at hoc
        (refine cp_sch (o := ?_) (at_of hops.out ?_) ?_ (.tmp 34) (.tmp 36) 23 23 ?_ _ _ ?_ ?_ hrunc (TS.tb htb (by simp)) ?_; rotate_left 1; (focus (simp only [List.getElem?_toArray, List.getElem?_cons_zero, List.getElem?_cons_succ]; rfl)); (focus (rw [hops.out]; rfl)); (focus rfl); (focus rfl); (focus rfl))
        simp only [Act.put, List.setIfInBounds_toArray, List.set_cons_zero, List.set_cons_succ]
        refine sch_done ?_
        have HT6 := Lib.hid (show TS [g] wF0 w6 from TS.tb htb (by simp))
        have HF6 := Lib.hid (HFq.out.ts HT6.out (fun y hy => by have := HGB.out; simp at hy; omega))
        have HO6 := Lib.hid hoc
        clear hops hoc htb hrunc HOq HFq HBq HK HT6
        go_upto_region 7 with fail
        obtain ⟨W0, hW0⟩ : ∃ W0 : World, W0 = w6 := ⟨_, rfl⟩
        rw [← hW0]
        refine region_sch (E := TS ([g])) ((0, true) :: (1, true) :: (2, true) :: (3, false) :: (4, true) :: (5, false) :: (6, false) :: []) (by kernel_rfl) (TS.refl _) (fun _ _ _ h k => TS.then h k) (fun _ _ d _ _ h => by cases d <;> exact h) (by kernel_rfl) ?_
        intro ops hops0
        have hops := Lib.hid hops0
        clear hops0
        have HF : TS ([g]) W0 W0.drew := TS.of (FB.refl _).drew
        have HD : FB W0 W0.drew := (FB.refl _).drew
        generalize W0.drew = wF0 at *
        rw [hW0] at HD
        have HFq := Lib.hid (HF6.out.trans HD)
        have HOq := Lib.hid (HD.own HO6.out)
        clear hW0 HD HF HF6 HO6
        repeat (refine sch_take (o := ?_) (v := ?_) (a' := ?_) (at_of hops.out ?_) ?_ (fun W hW => ?_) ?_ ?_; rotate_left 3; (focus (simp only [List.getElem?_toArray, List.getElem?_cons_zero, List.getElem?_cons_succ]; rfl)); (focus (rw [hops.out]; rfl)); (focus (go_simp; with_reducible rfl)); (focus (simp only [Act.put, List.setIfInBounds_toArray, List.set_cons_zero, List.set_cons_succ]; rfl)))
        have HCR := Lib.hid (show Calls Tryd.prog 38 #[.slice (some ⟨g, 0, none⟩) 4096 c2] wF0 fun e w' => e = .returned (.int .u32 (nb (pgSum k n x))) ∧ FB wF0 w' from by
          have h1 := pg_crcOf (pgB1 k n x) g 0 c2 wF0 (pgB1_len k n HX.out) HC2.out.1 HC2.out.2 (Own.info HOq.out).2.2.1
          rw [pgB1_take, pgB1_drop] at h1
          exact h1)
        (refine sch_call (o := ?_) (f := ?_) (args := ?_) (at_of hops.out ?_) ?_ ?_ ?_; rotate_left 3; (focus (simp only [List.getElem?_toArray, List.getElem?_cons_zero, List.getElem?_cons_succ]; rfl)); (focus (rw [hops.out]; rfl)); (focus (go_simp; constructor <;> with_reducible rfl)); (first | ((with_reducible refine (HCR.out).mono ?_); rintro e w7 ⟨rfl, hb⟩; refine ⟨_, rfl, (TS.of hb), ?_⟩; intro a' ha'; simp only [Act.put, List.setIfInBounds_toArray, List.set_cons_zero, List.set_cons_succ] at ha'; subst ha')))
        have HFr := Lib.hid (HFq.out.trans hb)
        have HOr := Lib.hid (FB.own hb HOq.out)
        clear hb HCR HOq HFq
        generalize hsm : pgSum k n x = sm at *
        have HSM := Lib.hid hsm
        have hws : IntKind.u64.wrap (nb sm) = nb sm := by rw [wrap_u64]; have := nb_lt32 sm; have := nb_nonneg sm; omega
        clear hsm
        repeat (refine sch_take (o := ?_) (v := ?_) (a' := ?_) (at_of hops.out ?_) ?_ (fun W hW => ?_) ?_ ?_; rotate_left 3; (focus (simp only [List.getElem?_toArray, List.getElem?_cons_zero, List.getElem?_cons_succ]; rfl)); (focus (rw [hops.out]; rfl)); (focus (go_simp; with_reducible rfl)); (focus (simp only [Act.put, List.setIfInBounds_toArray, List.set_cons_zero, List.set_cons_succ]; rfl)))
        have HW2 := Lib.hid (show Calls Tryd.prog 37 #[.slice none 0 0, .int .u64 (nb sm), .int .i64 4] w7 fun e w' => ∃ v, e = .returned v ∧ Own w' w7.heap.size v (oword 4 (sm.setWidth 64)) ∧ FB w7 w' from by
          have h1 := oct_Word [] none 0 0 (sm.setWidth 64) 4 w7 rfl (by simp) (by simp [maxLen]) (by simp) (Rd.nil _ _)
          rw [nb_setWidth sm (by omega)] at h1
          exact h1)
        (refine sch_call (o := ?_) (f := ?_) (args := ?_) (at_of hops.out ?_) ?_ ?_ ?_; rotate_left 3; (focus (simp only [List.getElem?_toArray, List.getElem?_cons_zero, List.getElem?_cons_succ]; rfl)); (focus (rw [hops.out]; rfl)); (focus (go_simp; constructor <;> with_reducible rfl)); (first | ((with_reducible refine (HW2.out).mono ?_); rintro e w8 ⟨v8, rfl, ho8, hb⟩; refine ⟨_, rfl, (TS.of hb), ?_⟩; intro a' ha'; simp only [Act.put, List.setIfInBounds_toArray, List.set_cons_zero, List.set_cons_succ] at ha'; subst ha')))
        obtain ⟨A8, c8, rfl, -, -, hr8, -⟩ := Own.form ho8
        have HFs := Lib.hid (HFr.out.trans hb)
        have HOs := Lib.hid (FB.own hb HOr.out)
        obtain ⟨w9, hrunc, hoc, htb⟩ := cp_run HOs.out 12 4 (c2 - 12) A8 c8 (oword 4 (sm.setWidth 64)) hr8 (by rw [oword_len]; omega) (by rw [oword_len, pgB1_len k n HX.out]; omega)
        rw [pg_splice2 k n x (oword_len _ _)] at hoc
        rw [oword_len] at hrunc ⊢
        (refine cp_sch (o := ?_) (at_of hops.out ?_) ?_ (.tmp 39) (.tmp 43) 23 23 ?_ _ _ ?_ ?_ hrunc (TS.tb htb (by simp)) ?_; rotate_left 1; (focus (simp only [List.getElem?_toArray, List.getElem?_cons_zero, List.getElem?_cons_succ]; rfl)); (focus (rw [hops.out]; rfl)); (focus rfl); (focus rfl); (focus rfl))
        simp only [Act.put, List.setIfInBounds_toArray, List.set_cons_zero, List.set_cons_succ]
        refine sch_done ?_
        have HE := Lib.hid (HFs.out.ts (show TS [g] w8 w9 from TS.tb htb (by simp)) (fun y hy => by have := HGB.out; simp at hy; omega))
        have HO9 := Lib.hid (show Own w9 w.heap.size (.slice (some ⟨g, 0, none⟩) 4096 c2) (pgBytes k n x) from by
          unfold pgBytes; rw [HSM.out]; exact hoc.lower (by omega))
        clear hops hoc htb hrunc HOs HOr HFr HFs hr8 ho8 hb
        go_wp2
        go_ret2
        rw [HRR.out]
        exact ⟨some ⟨g, 0, none⟩, c2, by rw [pgBytes_len k n HX.out]; rfl, by rw [pgBytes_len k n HX.out]; exact HO9.out, HE.out⟩
end Go.Proofs.YtihljjfnjclefaaDoor
