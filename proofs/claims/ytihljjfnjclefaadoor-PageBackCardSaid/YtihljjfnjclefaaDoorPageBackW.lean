/- The walk through PageBack. -/
import Derived.Test.YtihljjfnjclefaaDoorPgL
set_option linter.unusedVariables false
set_option linter.unusedSimpArgs false
namespace Go.Proofs.YtihljjfnjclefaaDoor
open Go.ChangeShapes Go.WideShapes Go.ChangeAt Go.RowKit
attribute [local go_sem] nb_nonneg nb_lt8 nb_lt64
set_option maxRecDepth 100000

theorem pg_pick (z : Int) : ∃ n : Nat, pick z 4096 = (n : Int) ∧ n < 4096 := by
  have h0 := Int.emod_nonneg z (b := (4096 : Int)) (by omega)
  have h1 := Int.emod_lt_of_pos z (b := (4096 : Int)) (by omega)
  refine ⟨(z % (4096 : Int)).toNat, ?_, by omega⟩
  unfold pick
  rw [if_neg (by omega)]
  omega
theorem OwnV.cellset {e : TypeId} {w : World} {base n g c : Nat} {vs : List Value} (h : OwnV e w base (.slice (some ⟨g, 0, none⟩) n c) vs) {j : Nat} (hj : j < vs.length) :
    w.cell? ⟨g, j, none⟩ = some vs[j] ∧ w.frozen? ⟨g, j, none⟩ = false ∧ ∀ u, OwnV e (w.setCell ⟨g, j, none⟩ u) base (.slice (some ⟨g, 0, none⟩) n c) (vs.set j u) := by
  obtain ⟨_, _, _, hn, _⟩ := OwnV.info h
  subst hn
  have hr := h
  unfold OwnV at hr
  refine ⟨?_, World.ownsRow.frozenAt hr j, fun u => ?_⟩
  · rw [World.ownsRow.cellAt hr j (by omega), List.getElem?_eq_getElem hj]
  · have := (World.ownsRow.stored hr j u).1
    unfold OwnV
    rw [List.length_set]
    exact this
set_option maxHeartbeats 8000000 in
theorem pageBack_walk (K : Int) (n : BitVec 32) (A : Option Addr) (c : Nat) (x : List Byte) (B : Option Addr) (d : Nat) (b : List Byte) (at_ : Int) (by_ : BitVec 8) (w : World) (hc : x.length ≤ c) (hm : c ≤ maxLen) (hr : Rd w A x) (hK : -9223372036854775808 ≤ K ∧ K ≤ 9223372036854775807) (hc2 : b.length ≤ d) (hm2 : d ≤ maxLen) (hr2 : Rd w B b) (hat : -9223372036854775808 ≤ at_ ∧ at_ ≤ 9223372036854775807) :
    Calls Tryd.prog 5 #[.agg #[.int .i64 K, .int .u32 (nb n), .slice A x.length c], .slice B b.length d, .int .i64 at_, .int .u8 (nb by_)] w fun e w' => e = .returned (.bool true) ∧ Below w.heap.size w w' := by
  have HF0 := Lib.hid ((FB.refl w).alloc (.cells #[.int .i64 K, .int .u32 (nb n), .slice A x.length c] 25))
  have HP0 := Lib.hid (heap_alloc_new w (.cells #[.int .i64 K, .int .u32 (nb n), .slice A x.length c] 25))
  have HRX := Lib.hid hr
  have HRB := Lib.hid hr2
  have HCX := Lib.hid (And.intro hc hm)
  have HCB := Lib.hid (And.intro hc2 hm2)
  clear hr hr2 hc hm hc2 hm2 hK hat
  go_enter Tryd.func5, Tryd.ntmps5
  go_wp2_with fail
  refine (pg_lives _).mono ?_
  rintro e w1 ⟨rfl, hb⟩
  have HF1 := Lib.hid (HF0.out.trans hb)
  have HP1 := Lib.hid ((hb.block _ (Array.getElem?_eq_some_iff.1 HP0.out).1).trans HP0.out)
  clear hb HF0 HP0
  obtain ⟨q0, q1, q2⟩ := prow3 HP1.out
  by_cases h1 : 5000 < x.length
  · have hz : 5000 < (x.length : Int) := by omega
    go_wp2
    go_ret
    exact ⟨rfl, HF1.out⟩
  · by_cases h2 : 5000 < b.length
    · have hz : ¬ 5000 < (x.length : Int) := by omega
      have hz2 : 5000 < (b.length : Int) := by omega
      go_wp2
      go_ret
      exact ⟨rfl, HF1.out⟩
    · have hz : ¬ 5000 < (x.length : Int) := by omega
      have hz2 : ¬ 5000 < (b.length : Int) := by omega
      have HLX := Lib.hid (show x.length ≤ 5000 from by omega)
      have HLB := Lib.hid (show b.length ≤ 5000 from by omega)
      have HC := Lib.hid (kit_Own b B d w1 HCB.out.1 (by have := HLB.out; omega) (HF1.out.rd HRB.out))
      clear h1 h2
      go_wp2_with fail
      clear q0 q1 q2
      refine HC.out.mono ?_
      rintro e w2 ⟨A27, c27, rfl, ho, hb⟩
      have hi := Own.info ho
      have HF2 := Lib.hid (HF1.out.call hb)
      have HP2 := Lib.hid ((FB.block hb _ (Array.getElem?_eq_some_iff.1 HP1.out).1).trans HP1.out)
      have hrd := pg_Read b A27 c27 w2 (by have := HLB.out; omega) hi.1 hi.2.1 hi.2.2.1
      obtain ⟨r, hrr⟩ : ∃ r, r = pgR b := ⟨_, rfl⟩
      rw [← hrr] at hrd
      obtain ⟨⟨K1, n1, x1⟩, er⟩ := r
      have HRR := Lib.hid hrr
      have HC2 := Lib.hid hrd
      clear hrd hrr ho hb hi HC HF1 HP1
      go_wp2_with fail
      refine HC2.out.mono ?_
      rintro e w3 ⟨A5, c5, rfl, hr5, hc5, hm5, hb⟩
      simp only at hr5 hc5
      have hbb := hb.alloc (.cells #[.int .i64 K1, .int .u32 (nb n1), .slice A5 x1.length c5] 25)
      have HF3 := Lib.hid (HF2.out.trans hbb)
      have HP3 := Lib.hid ((hbb.block _ (Array.getElem?_eq_some_iff.1 HP2.out).1).trans HP2.out)
      have H93 := Lib.hid (heap_alloc_new w3 (.cells #[.int .i64 K1, .int .u32 (nb n1), .slice A5 x1.length c5] 25))
      have HR5 := Lib.hid (((FB.refl w3).alloc (.cells #[.int .i64 K1, .int .u32 (nb n1), .slice A5 x1.length c5] 25)).rd hr5)
      have HG9 := Lib.hid (show w.heap.size < w3.heap.size from Nat.lt_of_lt_of_le (Array.getElem?_eq_some_iff.1 HP2.out).1 hb.le)
      clear hr5 hc5 hm5 hb hbb HC2 HF2 HP2
      by_cases her : er = 0
      · subst her
        have hok := pgR_ok HRR.out.symm
        have HLX1 := Lib.hid (show x1.length ≤ 1000000000 from by
          have h2 := hok.1
          unfold pgB at h2
          split at h2
          · rename_i ho; have := (pgOk_iff.1 ho).2.2; simp only at this; omega
          · have := congrArg Prod.snd h2; simp at this)
        have hby := pg_Bytes K1 n1 x1 A5 c5 _ HLX1.out HR5.out
        rw [show pgB K1 n1 x1 = (b, 0) from hok.1] at hby
        have HC3 := Lib.hid hby
        obtain ⟨q0, q1, q2⟩ := prow3 H93.out
        clear hok hby
        go_wp2_with fail
        clear q0 q1 q2
        generalize w3.alloc _ = w4 at *
        generalize w3.heap.size = g9 at *
        refine HC3.out.mono ?_
        rintro e wt ⟨A11, c11, rfl, ho, hb⟩
        simp only at ho
        have hr11 := (Own.info ho).2.2.1
        have HFT := Lib.hid (HF3.out.trans hb)
        have HPT := Lib.hid ((hb.block _ (Array.getElem?_eq_some_iff.1 HP3.out).1).trans HP3.out)
        have H9T := Lib.hid ((hb.block _ (Array.getElem?_eq_some_iff.1 H93.out).1).trans H93.out)
        have hs1 := run_string c11 hr11
        have hs2 := run_string d (HFT.out.rd HRB.out)
        have hse : ((sb b).toList == (sb b).toList) = true := by simp
        clear ho hb hr11 HC3 HF3 HP3 H93 HR5 HRR
        go_upto_region 10 with fail
        clear hs1 hs2 hse
        have hcw := pg_Bytes K n x A c wt (by have := HLX.out; omega) (HFT.out.rd HRX.out)
        by_cases hok : pgOk K x = true
        · obtain ⟨ys, hys⟩ : ∃ ys, ys = pgBytes (BitVec.ofInt 8 K) n x := ⟨_, rfl⟩
          have o := pgOk_iff.1 hok
          have HYL := Lib.hid (show ys.length = 4096 from by rw [hys]; exact pgBytes_len _ _ o.2.2)
          have HYR := Lib.hid (show pgR ys = ((K, n, pgPad x), 0) from by rw [hys]; exact pgR_bytes hok)
          have HYB := Lib.hid (show pgB K n x = (ys, 0) from by unfold pgB; rw [if_pos hok, hys])
          have HXP := Lib.hid (show (pgPad x).length = 4080 from pgPad_len o.2.2)
          have HSM := Lib.hid (show pgSame K n x K n (pgPad x) = true from by unfold pgSame; rw [trimz_pad]; simp)
          rw [HYB.out] at hcw
          have HC := Lib.hid hcw
          clear hcw hys o hok
          obtain ⟨q0, q1, q2⟩ := prow3 HPT.out
          go_wp2_with fail
          clear q0 q1 q2
          refine HC.out.mono ?_
          rintro e t1 ⟨A13, c13, rfl, ho, hb⟩
          simp only at ho
          rw [HYL.out] at ho ⊢
          have hi := Own.info ho
          obtain ⟨g13, rfl, hg1, -⟩ := OwnV.head0 ho (by rw [vbs_length, HYL.out]; omega)
          have HOY := Lib.hid ho
          have HCY := Lib.hid (show 4096 ≤ c13 ∧ c13 ≤ maxLen from ⟨by rw [← HYL.out]; exact hi.1, hi.2.1⟩)
          have HF1 := Lib.hid (HFT.out.trans hb)
          have HP1 := Lib.hid ((hb.block _ (Array.getElem?_eq_some_iff.1 HPT.out).1).trans HPT.out)
          have H91 := Lib.hid ((hb.block _ (Array.getElem?_eq_some_iff.1 H9T.out).1).trans H9T.out)
          have HGN := Lib.hid (show g9 < g13 from Nat.lt_of_lt_of_le (Array.getElem?_eq_some_iff.1 H9T.out).1 hg1)
          have hko := kit_Own ys (some ⟨g13, 0, none⟩) c13 t1 hi.1 (by rw [HYL.out]; omega) hi.2.2.1
          rw [HYL.out] at hko
          have HC2 := Lib.hid hko
          clear hko ho hb hi hg1 HC HFT HPT H9T
          go_wp2_with fail
          refine HC2.out.mono ?_
          rintro e t2 ⟨A14, c14, rfl, ho, hb⟩
          rw [← HYL.out] at ho
          have hi := Own.info ho
          have HF2 := Lib.hid (HF1.out.call hb)
          have HP2 := Lib.hid ((FB.block hb _ (Array.getElem?_eq_some_iff.1 HP1.out).1).trans HP1.out)
          have H92 := Lib.hid ((FB.block hb _ (Array.getElem?_eq_some_iff.1 H91.out).1).trans H91.out)
          have HOY2 := Lib.hid (FB.own hb HOY.out)
          have hrd := pg_Read ys A14 c14 t2 (by rw [HYL.out]; omega) hi.1 hi.2.1 hi.2.2.1
          rw [HYR.out, HYL.out] at hrd
          have HC3 := Lib.hid hrd
          clear hrd ho hb hi HC2 HF1 HP1 H91 HOY
          go_wp2_with fail
          refine HC3.out.mono ?_
          rintro e t3 ⟨A9, c9, rfl, hr9, hc9, hm9, hb⟩
          simp only at hr9 hc9
          simp only [HXP.out] at hc9 ⊢
          have HF3 := Lib.hid (HF2.out.trans hb)
          have HP3 := Lib.hid ((hb.block _ (Array.getElem?_eq_some_iff.1 HP2.out).1).trans HP2.out)
          have H93 := Lib.hid ((hb.block _ (Array.getElem?_eq_some_iff.1 H92.out).1).trans H92.out)
          have HOY3 := Lib.hid (FB.own hb HOY2.out)
          have hts := TS.tb (F := [g9]) (TB.setRow g9 t3 #[.int .i64 K, .int .u32 (nb n), .slice A9 4080 c9]) (by simp)
          have hst := pg_store (.int .i64 K) (.int .u32 (nb n)) (.slice A9 4080 c9) H93.out (by simp [Value.oneCell'])
          have HF4 := Lib.hid (HF3.out.setRow (g := g9) (by have := HG9.out; omega) #[.int .i64 K, .int .u32 (nb n), .slice A9 4080 c9])
          have HP4 := Lib.hid ((hts.block _ (Array.getElem?_eq_some_iff.1 HP3.out).1 (by have := HG9.out; simp; omega)).trans HP3.out)
          have H94 := Lib.hid (setRow_heap t3 g9 _ #[.int .i64 K, .int .u32 (nb n), .slice A9 4080 c9] _ _ H93.out)
          have HR9 := Lib.hid (Rd.overP H93.out hr9 hts)
          have HOY4 := Lib.hid (show Own (t3.setRow g9 #[.int .i64 K, .int .u32 (nb n), .slice A9 4080 c9]) _ (.slice (some ⟨g13, 0, none⟩) 4096 c13) ys from hts.ownV HOY3.out (fun k hk hm => by cases hk; have := HGN.out; simp at hm; omega))
          have HC9 := Lib.hid (And.intro hc9 hm9)
          clear hr9 hc9 hm9 hb hts HC3 HF2 HP2 H92 HOY2 HF3 HP3 H93 HOY3
          go_wp2_with (refine wpList_store_by rfl _ _ _ rfl _ hst ?_)
          clear hst
          generalize t3.setRow _ _ = t4 at *
          have HCS := Lib.hid (fun W (h : FB t4 W) => by
            have q := pg_Same K K n n x (pgPad x) A A9 c c9 W (by have := HLX.out; omega) (by rw [HXP.out]; omega) HCX.out.1 (by rw [HXP.out]; exact HC9.out.1) HCX.out.2 HC9.out.2 ((HF4.out.trans h).rd HRX.out) (h.rd HR9.out)
            rw [HSM.out, HXP.out] at q
            exact q)
          have HCK := Lib.hid (fun W (h : FB t4 W) => by
            have q := pg_Kind ys (some ⟨g13, 0, none⟩) c13 W (by rw [HYL.out]; omega) (by rw [HYL.out]; exact HCY.out.1) HCY.out.2 (h.rd (Own.info HOY4.out).2.2.1)
            rw [HYR.out, HYL.out] at q
            exact q)
          have hkk : (K != K) = false := by simp
          obtain ⟨W0, hW0⟩ : ∃ W0 : World, W0 = t4 := ⟨_, rfl⟩
          rw [← hW0]
          refine region_sch (E := FB) ((0, true) :: (1, true) :: (2, true) :: (3, true) :: (4, true) :: (5, false) :: (6, true) :: (7, true) :: (8, true) :: (9, true) :: (11, true) :: (12, true) :: (10, false) :: (13, true) :: (14, true) :: (15, true) :: (16, true) :: (17, true) :: (18, true) :: (19, true) :: []) (by kernel_rfl) FB.refl fb_trans (fun _ _ d _ _ h => by cases d <;> exact h) (by kernel_rfl) ?_
          intro ops hops0
          have hops := Lib.hid hops0
          clear hops0
          have HF : FB W0 W0.drew := (FB.refl _).drew
          generalize W0.drew = wF at *
          have HFq := Lib.hid (show FB t4 wF from by rw [← hW0]; exact HF)
          clear hW0 HF
          have K1 := Lib.hid (FB.cell HFq.out (prow3 HP4.out).1)
          have K2 := Lib.hid (FB.cell HFq.out (prow3 HP4.out).2.1)
          have K3 := Lib.hid (FB.cell HFq.out (prow3 HP4.out).2.2)
          have K4 := Lib.hid (FB.cell HFq.out (prow3 H94.out).1)
          have K5 := Lib.hid (FB.cell HFq.out (prow3 H94.out).2.1)
          have K6 := Lib.hid (FB.cell HFq.out (prow3 H94.out).2.2)
          have HF := FB.refl wF
          repeat (refine sch_take (o := ?_) (v := ?_) (a' := ?_) (at_of hops.out ?_) ?_ (fun W hW => ?_) ?_ ?_; rotate_left 3; (focus (simp only [List.getElem?_toArray, List.getElem?_cons_zero, List.getElem?_cons_succ]; rfl)); (focus (rw [hops.out]; rfl)); (focus (have u1 := FB.cell hW K1.out; have u2 := FB.cell hW K2.out; have u3 := FB.cell hW K3.out; have u4 := FB.cell hW K4.out; have u5 := FB.cell hW K5.out; have u6 := FB.cell hW K6.out; go_simp; with_reducible rfl)); (focus (simp only [Act.put, List.setIfInBounds_toArray, List.set_cons_zero, List.set_cons_succ]; rfl)))
          (refine sch_call (o := ?_) (f := ?_) (args := ?_) (at_of hops.out ?_) ?_ ?_ ?_; rotate_left 3; (focus (simp only [List.getElem?_toArray, List.getElem?_cons_zero, List.getElem?_cons_succ]; rfl)); (focus (rw [hops.out]; rfl)); (focus (go_simp; constructor <;> with_reducible rfl)); (first | ((with_reducible refine (HCS.out _ (HFq.out.trans HF)).mono ?_); rintro e w' ⟨rfl, hb⟩; refine ⟨_, rfl, hb, ?_⟩; intro a' ha'; simp only [Act.put, List.setIfInBounds_toArray, List.set_cons_zero, List.set_cons_succ] at ha'; subst ha'; replace HF := HF.call hb; clear hb)))
          repeat (refine sch_take (o := ?_) (v := ?_) (a' := ?_) (at_of hops.out ?_) ?_ (fun W hW => ?_) ?_ ?_; rotate_left 3; (focus (simp only [List.getElem?_toArray, List.getElem?_cons_zero, List.getElem?_cons_succ]; rfl)); (focus (rw [hops.out]; rfl)); (focus (have u1 := FB.cell (HF.trans hW) K1.out; go_simp; with_reducible rfl)); (focus (simp only [Act.put, List.setIfInBounds_toArray, List.set_cons_zero, List.set_cons_succ]; rfl)))
          (refine sch_call (o := ?_) (f := ?_) (args := ?_) (at_of hops.out ?_) ?_ ?_ ?_; rotate_left 3; (focus (simp only [List.getElem?_toArray, List.getElem?_cons_zero, List.getElem?_cons_succ]; rfl)); (focus (rw [hops.out]; rfl)); (focus (go_simp; constructor <;> with_reducible rfl)); (first | ((with_reducible refine (HCK.out _ (HFq.out.trans HF)).mono ?_); rintro e w'' ⟨rfl, hb⟩; refine ⟨_, rfl, hb, ?_⟩; intro a' ha'; simp only [Act.put, List.setIfInBounds_toArray, List.set_cons_zero, List.set_cons_succ] at ha'; subst ha'; replace HF := HF.call hb; clear hb)))
          repeat (refine sch_take (o := ?_) (v := ?_) (a' := ?_) (at_of hops.out ?_) ?_ (fun W hW => ?_) ?_ ?_; rotate_left 3; (focus (simp only [List.getElem?_toArray, List.getElem?_cons_zero, List.getElem?_cons_succ]; rfl)); (focus (rw [hops.out]; rfl)); (focus (go_simp; with_reducible rfl)); (focus (simp only [Act.put, List.setIfInBounds_toArray, List.set_cons_zero, List.set_cons_succ]; rfl)))
          refine sch_done ?_
          have HF5 := Lib.hid ((HF4.out.trans HFq.out).trans HF)
          have HOY5 := Lib.hid (FB.own (HFq.out.trans HF) HOY4.out)
          clear hops HF K1 K2 K3 K4 K5 K6 HCS HCK HF4 HP4 H94 HOY4 HR9 HFq
          obtain ⟨j, hj, hjl⟩ := pg_pick at_
          have hjz : (j : Int) < 4096 := by omega
          have hpk := kit_Pick at_ 4096 w'' (by omega) (by omega)
          rw [hj] at hpk
          have HCP := Lib.hid hpk
          have hji : j < ys.length := by rw [HYL.out]; exact hjl
          obtain ⟨s0, sf, sset⟩ := OwnV.cellset HOY5.out (j := j) (by rw [vbs_length]; exact hji)
          rw [vbs_get ys j hji] at s0
          unfold vb at s0
          obtain ⟨yj, hyj⟩ : ∃ yj, yj = ys[j] := ⟨_, rfl⟩
          rw [← hyj] at s0
          have hxo := bits_xor8 yj by_
          obtain ⟨zs, hzs⟩ : ∃ zs, zs = ys.set j (ys[j] ^^^ by_) := ⟨_, rfl⟩
          have HZL := Lib.hid (show zs.length = 4096 from by rw [hzs, List.length_set, HYL.out])
          have HOZ := Lib.hid (show Own (w''.setCell ⟨g13, j, none⟩ (.int .u8 (nb (yj ^^^ by_)))) _ (.slice (some ⟨g13, 0, none⟩) 4096 c13) zs from by
            have q := sset (vb (yj ^^^ by_))
            unfold Own
            rw [hzs, show vbs (ys.set j (ys[j] ^^^ by_)) = (vbs ys).set j (vb (yj ^^^ by_)) from by unfold vbs; rw [List.map_set, hyj]]
            exact q)
          have HF6 := Lib.hid (HF5.out.set (p := ⟨g13, j, none⟩) (by have h1 := HGN.out; have h2 := HG9.out; simp; omega) (.int .u8 (nb (yj ^^^ by_))))
          have HEQ := Lib.hid (show (((pgR zs).2 == 0) == (nb by_ == 0)) = true from by
            by_cases hby : by_ = 0#8
            · have e1 : zs = ys := by rw [hzs, hby, BitVec.xor_zero, List.set_getElem_self]
              rw [e1, HYR.out, hby]; rfl
            · have e1 : (nb by_ == 0) = false := by rw [nb_beq0]; simpa using hby
              have e2 : ((pgR zs).2 == 0) = false := by
                rw [beq_eq_false_iff_ne]
                intro he
                have hp : pgR zs = ((pgR zs).1, 0) := by rw [← he]
                have := (pgR_ok hp).1
                rw [hzs] at this
                exact hby (pg_change HYB.out j hji by_ this)
              rw [e1, e2]; rfl)
          have hrd := pg_Read zs (some ⟨g13, 0, none⟩) c13 _ (by rw [HZL.out]; omega) (by rw [HZL.out]; exact HCY.out.1) HCY.out.2 (Own.info HOZ.out).2.2.1
          rw [HZL.out] at hrd
          have HC7 := Lib.hid hrd
          generalize pgR zs = rz at *
          obtain ⟨⟨z1, z2, z3⟩, ez⟩ := rz
          simp only at HEQ
          clear hrd hpk sset hzs hyj hj hjl hji HOZ
          go_wp2_with fail
          refine HCP.out.mono ?_
          rintro e w8 ⟨rfl, rfl⟩
          go_wp2_with fail
          clear s0 sf hxo
          refine HC7.out.mono ?_
          rintro e w9 ⟨A15, c15, rfl, -, -, -, hb⟩
          have HE := Lib.hid (HF6.out.trans hb)
          have heq := HEQ.out
          clear hb
          go_wp2
          go_ret
          exact ⟨rfl, HE.out⟩
        · rw [show pgB K n x = ([], 2) from by unfold pgB; rw [if_neg hok]] at hcw
          have HC := Lib.hid hcw
          clear hcw
          obtain ⟨q0, q1, q2⟩ := prow3 HPT.out
          go_wp2_with fail
          clear q0 q1 q2
          refine HC.out.mono ?_
          rintro e t1 ⟨A13, c13, rfl, -, hb⟩
          have HP1 := Lib.hid ((hb.block _ (Array.getElem?_eq_some_iff.1 HPT.out).1).trans HPT.out)
          have HE := Lib.hid (HFT.out.trans hb)
          obtain ⟨q0, q1, q2⟩ := prow3 HP1.out
          clear hb
          by_cases k1 : K < 1
          · clear hok
            go_wp2
            go_ret
            exact ⟨rfl, HE.out⟩
          · by_cases k2 : 7 < K
            · clear hok
              go_wp2
              go_ret
              exact ⟨rfl, HE.out⟩
            · have k3 : 4080 < (x.length : Int) := by
                rw [pgOk_iff] at hok; omega
              clear hok
              go_wp2
              go_ret
              exact ⟨rfl, HE.out⟩
      · have heb : (er == 0) = false := by simpa using her
        clear her HRR HR5
        go_upto_region 10 with fail
        generalize w3.alloc _ = wt at *
        generalize w3.heap.size = g9 at *
        have HFT := HF3
        have HPT := HP3
        have H9T := H93
        clear HF3 HP3 H93 heb
        have hcw := pg_Bytes K n x A c wt (by have := HLX.out; omega) (HFT.out.rd HRX.out)
        by_cases hok : pgOk K x = true
        · obtain ⟨ys, hys⟩ : ∃ ys, ys = pgBytes (BitVec.ofInt 8 K) n x := ⟨_, rfl⟩
          have o := pgOk_iff.1 hok
          have HYL := Lib.hid (show ys.length = 4096 from by rw [hys]; exact pgBytes_len _ _ o.2.2)
          have HYR := Lib.hid (show pgR ys = ((K, n, pgPad x), 0) from by rw [hys]; exact pgR_bytes hok)
          have HYB := Lib.hid (show pgB K n x = (ys, 0) from by unfold pgB; rw [if_pos hok, hys])
          have HXP := Lib.hid (show (pgPad x).length = 4080 from pgPad_len o.2.2)
          have HSM := Lib.hid (show pgSame K n x K n (pgPad x) = true from by unfold pgSame; rw [trimz_pad]; simp)
          rw [HYB.out] at hcw
          have HC := Lib.hid hcw
          clear hcw hys o hok
          obtain ⟨q0, q1, q2⟩ := prow3 HPT.out
          go_wp2_with fail
          clear q0 q1 q2
          refine HC.out.mono ?_
          rintro e t1 ⟨A13, c13, rfl, ho, hb⟩
          simp only at ho
          rw [HYL.out] at ho ⊢
          have hi := Own.info ho
          obtain ⟨g13, rfl, hg1, -⟩ := OwnV.head0 ho (by rw [vbs_length, HYL.out]; omega)
          have HOY := Lib.hid ho
          have HCY := Lib.hid (show 4096 ≤ c13 ∧ c13 ≤ maxLen from ⟨by rw [← HYL.out]; exact hi.1, hi.2.1⟩)
          have HF1 := Lib.hid (HFT.out.trans hb)
          have HP1 := Lib.hid ((hb.block _ (Array.getElem?_eq_some_iff.1 HPT.out).1).trans HPT.out)
          have H91 := Lib.hid ((hb.block _ (Array.getElem?_eq_some_iff.1 H9T.out).1).trans H9T.out)
          have HGN := Lib.hid (show g9 < g13 from Nat.lt_of_lt_of_le (Array.getElem?_eq_some_iff.1 H9T.out).1 hg1)
          have hko := kit_Own ys (some ⟨g13, 0, none⟩) c13 t1 hi.1 (by rw [HYL.out]; omega) hi.2.2.1
          rw [HYL.out] at hko
          have HC2 := Lib.hid hko
          clear hko ho hb hi hg1 HC HFT HPT H9T
          go_wp2_with fail
          refine HC2.out.mono ?_
          rintro e t2 ⟨A14, c14, rfl, ho, hb⟩
          rw [← HYL.out] at ho
          have hi := Own.info ho
          have HF2 := Lib.hid (HF1.out.call hb)
          have HP2 := Lib.hid ((FB.block hb _ (Array.getElem?_eq_some_iff.1 HP1.out).1).trans HP1.out)
          have H92 := Lib.hid ((FB.block hb _ (Array.getElem?_eq_some_iff.1 H91.out).1).trans H91.out)
          have HOY2 := Lib.hid (FB.own hb HOY.out)
          have hrd := pg_Read ys A14 c14 t2 (by rw [HYL.out]; omega) hi.1 hi.2.1 hi.2.2.1
          rw [HYR.out, HYL.out] at hrd
          have HC3 := Lib.hid hrd
          clear hrd ho hb hi HC2 HF1 HP1 H91 HOY
          go_wp2_with fail
          refine HC3.out.mono ?_
          rintro e t3 ⟨A9, c9, rfl, hr9, hc9, hm9, hb⟩
          simp only at hr9 hc9
          simp only [HXP.out] at hc9 ⊢
          have HF3 := Lib.hid (HF2.out.trans hb)
          have HP3 := Lib.hid ((hb.block _ (Array.getElem?_eq_some_iff.1 HP2.out).1).trans HP2.out)
          have H93 := Lib.hid ((hb.block _ (Array.getElem?_eq_some_iff.1 H92.out).1).trans H92.out)
          have HOY3 := Lib.hid (FB.own hb HOY2.out)
          have hts := TS.tb (F := [g9]) (TB.setRow g9 t3 #[.int .i64 K, .int .u32 (nb n), .slice A9 4080 c9]) (by simp)
          have hst := pg_store (.int .i64 K) (.int .u32 (nb n)) (.slice A9 4080 c9) H93.out (by simp [Value.oneCell'])
          have HF4 := Lib.hid (HF3.out.setRow (g := g9) (by have := HG9.out; omega) #[.int .i64 K, .int .u32 (nb n), .slice A9 4080 c9])
          have HP4 := Lib.hid ((hts.block _ (Array.getElem?_eq_some_iff.1 HP3.out).1 (by have := HG9.out; simp; omega)).trans HP3.out)
          have H94 := Lib.hid (setRow_heap t3 g9 _ #[.int .i64 K, .int .u32 (nb n), .slice A9 4080 c9] _ _ H93.out)
          have HR9 := Lib.hid (Rd.overP H93.out hr9 hts)
          have HOY4 := Lib.hid (show Own (t3.setRow g9 #[.int .i64 K, .int .u32 (nb n), .slice A9 4080 c9]) _ (.slice (some ⟨g13, 0, none⟩) 4096 c13) ys from hts.ownV HOY3.out (fun k hk hm => by cases hk; have := HGN.out; simp at hm; omega))
          have HC9 := Lib.hid (And.intro hc9 hm9)
          clear hr9 hc9 hm9 hb hts HC3 HF2 HP2 H92 HOY2 HF3 HP3 H93 HOY3
          go_wp2_with (refine wpList_store_by rfl _ _ _ rfl _ hst ?_)
          clear hst
          generalize t3.setRow _ _ = t4 at *
          have HCS := Lib.hid (fun W (h : FB t4 W) => by
            have q := pg_Same K K n n x (pgPad x) A A9 c c9 W (by have := HLX.out; omega) (by rw [HXP.out]; omega) HCX.out.1 (by rw [HXP.out]; exact HC9.out.1) HCX.out.2 HC9.out.2 ((HF4.out.trans h).rd HRX.out) (h.rd HR9.out)
            rw [HSM.out, HXP.out] at q
            exact q)
          have HCK := Lib.hid (fun W (h : FB t4 W) => by
            have q := pg_Kind ys (some ⟨g13, 0, none⟩) c13 W (by rw [HYL.out]; omega) (by rw [HYL.out]; exact HCY.out.1) HCY.out.2 (h.rd (Own.info HOY4.out).2.2.1)
            rw [HYR.out, HYL.out] at q
            exact q)
          have hkk : (K != K) = false := by simp
          obtain ⟨W0, hW0⟩ : ∃ W0 : World, W0 = t4 := ⟨_, rfl⟩
          rw [← hW0]
          refine region_sch (E := FB) ((0, true) :: (1, true) :: (2, true) :: (3, true) :: (4, true) :: (5, false) :: (6, true) :: (7, true) :: (8, true) :: (9, true) :: (11, true) :: (12, true) :: (10, false) :: (13, true) :: (14, true) :: (15, true) :: (16, true) :: (17, true) :: (18, true) :: (19, true) :: []) (by kernel_rfl) FB.refl fb_trans (fun _ _ d _ _ h => by cases d <;> exact h) (by kernel_rfl) ?_
          intro ops hops0
          have hops := Lib.hid hops0
          clear hops0
          have HF : FB W0 W0.drew := (FB.refl _).drew
          generalize W0.drew = wF at *
          have HFq := Lib.hid (show FB t4 wF from by rw [← hW0]; exact HF)
          clear hW0 HF
          have K1 := Lib.hid (FB.cell HFq.out (prow3 HP4.out).1)
          have K2 := Lib.hid (FB.cell HFq.out (prow3 HP4.out).2.1)
          have K3 := Lib.hid (FB.cell HFq.out (prow3 HP4.out).2.2)
          have K4 := Lib.hid (FB.cell HFq.out (prow3 H94.out).1)
          have K5 := Lib.hid (FB.cell HFq.out (prow3 H94.out).2.1)
          have K6 := Lib.hid (FB.cell HFq.out (prow3 H94.out).2.2)
          have HF := FB.refl wF
          repeat (refine sch_take (o := ?_) (v := ?_) (a' := ?_) (at_of hops.out ?_) ?_ (fun W hW => ?_) ?_ ?_; rotate_left 3; (focus (simp only [List.getElem?_toArray, List.getElem?_cons_zero, List.getElem?_cons_succ]; rfl)); (focus (rw [hops.out]; rfl)); (focus (have u1 := FB.cell hW K1.out; have u2 := FB.cell hW K2.out; have u3 := FB.cell hW K3.out; have u4 := FB.cell hW K4.out; have u5 := FB.cell hW K5.out; have u6 := FB.cell hW K6.out; go_simp; with_reducible rfl)); (focus (simp only [Act.put, List.setIfInBounds_toArray, List.set_cons_zero, List.set_cons_succ]; rfl)))
          (refine sch_call (o := ?_) (f := ?_) (args := ?_) (at_of hops.out ?_) ?_ ?_ ?_; rotate_left 3; (focus (simp only [List.getElem?_toArray, List.getElem?_cons_zero, List.getElem?_cons_succ]; rfl)); (focus (rw [hops.out]; rfl)); (focus (go_simp; constructor <;> with_reducible rfl)); (first | ((with_reducible refine (HCS.out _ (HFq.out.trans HF)).mono ?_); rintro e w' ⟨rfl, hb⟩; refine ⟨_, rfl, hb, ?_⟩; intro a' ha'; simp only [Act.put, List.setIfInBounds_toArray, List.set_cons_zero, List.set_cons_succ] at ha'; subst ha'; replace HF := HF.call hb; clear hb)))
          repeat (refine sch_take (o := ?_) (v := ?_) (a' := ?_) (at_of hops.out ?_) ?_ (fun W hW => ?_) ?_ ?_; rotate_left 3; (focus (simp only [List.getElem?_toArray, List.getElem?_cons_zero, List.getElem?_cons_succ]; rfl)); (focus (rw [hops.out]; rfl)); (focus (have u1 := FB.cell (HF.trans hW) K1.out; go_simp; with_reducible rfl)); (focus (simp only [Act.put, List.setIfInBounds_toArray, List.set_cons_zero, List.set_cons_succ]; rfl)))
          (refine sch_call (o := ?_) (f := ?_) (args := ?_) (at_of hops.out ?_) ?_ ?_ ?_; rotate_left 3; (focus (simp only [List.getElem?_toArray, List.getElem?_cons_zero, List.getElem?_cons_succ]; rfl)); (focus (rw [hops.out]; rfl)); (focus (go_simp; constructor <;> with_reducible rfl)); (first | ((with_reducible refine (HCK.out _ (HFq.out.trans HF)).mono ?_); rintro e w'' ⟨rfl, hb⟩; refine ⟨_, rfl, hb, ?_⟩; intro a' ha'; simp only [Act.put, List.setIfInBounds_toArray, List.set_cons_zero, List.set_cons_succ] at ha'; subst ha'; replace HF := HF.call hb; clear hb)))
          repeat (refine sch_take (o := ?_) (v := ?_) (a' := ?_) (at_of hops.out ?_) ?_ (fun W hW => ?_) ?_ ?_; rotate_left 3; (focus (simp only [List.getElem?_toArray, List.getElem?_cons_zero, List.getElem?_cons_succ]; rfl)); (focus (rw [hops.out]; rfl)); (focus (go_simp; with_reducible rfl)); (focus (simp only [Act.put, List.setIfInBounds_toArray, List.set_cons_zero, List.set_cons_succ]; rfl)))
          refine sch_done ?_
          have HF5 := Lib.hid ((HF4.out.trans HFq.out).trans HF)
          have HOY5 := Lib.hid (FB.own (HFq.out.trans HF) HOY4.out)
          clear hops HF K1 K2 K3 K4 K5 K6 HCS HCK HF4 HP4 H94 HOY4 HR9 HFq
          obtain ⟨j, hj, hjl⟩ := pg_pick at_
          have hjz : (j : Int) < 4096 := by omega
          have hpk := kit_Pick at_ 4096 w'' (by omega) (by omega)
          rw [hj] at hpk
          have HCP := Lib.hid hpk
          have hji : j < ys.length := by rw [HYL.out]; exact hjl
          obtain ⟨s0, sf, sset⟩ := OwnV.cellset HOY5.out (j := j) (by rw [vbs_length]; exact hji)
          rw [vbs_get ys j hji] at s0
          unfold vb at s0
          obtain ⟨yj, hyj⟩ : ∃ yj, yj = ys[j] := ⟨_, rfl⟩
          rw [← hyj] at s0
          have hxo := bits_xor8 yj by_
          obtain ⟨zs, hzs⟩ : ∃ zs, zs = ys.set j (ys[j] ^^^ by_) := ⟨_, rfl⟩
          have HZL := Lib.hid (show zs.length = 4096 from by rw [hzs, List.length_set, HYL.out])
          have HOZ := Lib.hid (show Own (w''.setCell ⟨g13, j, none⟩ (.int .u8 (nb (yj ^^^ by_)))) _ (.slice (some ⟨g13, 0, none⟩) 4096 c13) zs from by
            have q := sset (vb (yj ^^^ by_))
            unfold Own
            rw [hzs, show vbs (ys.set j (ys[j] ^^^ by_)) = (vbs ys).set j (vb (yj ^^^ by_)) from by unfold vbs; rw [List.map_set, hyj]]
            exact q)
          have HF6 := Lib.hid (HF5.out.set (p := ⟨g13, j, none⟩) (by have h1 := HGN.out; have h2 := HG9.out; simp; omega) (.int .u8 (nb (yj ^^^ by_))))
          have HEQ := Lib.hid (show (((pgR zs).2 == 0) == (nb by_ == 0)) = true from by
            by_cases hby : by_ = 0#8
            · have e1 : zs = ys := by rw [hzs, hby, BitVec.xor_zero, List.set_getElem_self]
              rw [e1, HYR.out, hby]; rfl
            · have e1 : (nb by_ == 0) = false := by rw [nb_beq0]; simpa using hby
              have e2 : ((pgR zs).2 == 0) = false := by
                rw [beq_eq_false_iff_ne]
                intro he
                have hp : pgR zs = ((pgR zs).1, 0) := by rw [← he]
                have := (pgR_ok hp).1
                rw [hzs] at this
                exact hby (pg_change HYB.out j hji by_ this)
              rw [e1, e2]; rfl)
          have hrd := pg_Read zs (some ⟨g13, 0, none⟩) c13 _ (by rw [HZL.out]; omega) (by rw [HZL.out]; exact HCY.out.1) HCY.out.2 (Own.info HOZ.out).2.2.1
          rw [HZL.out] at hrd
          have HC7 := Lib.hid hrd
          generalize pgR zs = rz at *
          obtain ⟨⟨z1, z2, z3⟩, ez⟩ := rz
          simp only at HEQ
          clear hrd hpk sset hzs hyj hj hjl hji HOZ
          go_wp2_with fail
          refine HCP.out.mono ?_
          rintro e w8 ⟨rfl, rfl⟩
          go_wp2_with fail
          clear s0 sf hxo
          refine HC7.out.mono ?_
          rintro e w9 ⟨A15, c15, rfl, -, -, -, hb⟩
          have HE := Lib.hid (HF6.out.trans hb)
          have heq := HEQ.out
          clear hb
          go_wp2
          go_ret
          exact ⟨rfl, HE.out⟩
        · rw [show pgB K n x = ([], 2) from by unfold pgB; rw [if_neg hok]] at hcw
          have HC := Lib.hid hcw
          clear hcw
          obtain ⟨q0, q1, q2⟩ := prow3 HPT.out
          go_wp2_with fail
          clear q0 q1 q2
          refine HC.out.mono ?_
          rintro e t1 ⟨A13, c13, rfl, -, hb⟩
          have HP1 := Lib.hid ((hb.block _ (Array.getElem?_eq_some_iff.1 HPT.out).1).trans HPT.out)
          have HE := Lib.hid (HFT.out.trans hb)
          obtain ⟨q0, q1, q2⟩ := prow3 HP1.out
          clear hb
          by_cases k1 : K < 1
          · clear hok
            go_wp2
            go_ret
            exact ⟨rfl, HE.out⟩
          · by_cases k2 : 7 < K
            · clear hok
              go_wp2
              go_ret
              exact ⟨rfl, HE.out⟩
            · have k3 : 4080 < (x.length : Int) := by
                rw [pgOk_iff] at hok; omega
              clear hok
              go_wp2
              go_ret
              exact ⟨rfl, HE.out⟩
end Go.Proofs.YtihljjfnjclefaaDoor
