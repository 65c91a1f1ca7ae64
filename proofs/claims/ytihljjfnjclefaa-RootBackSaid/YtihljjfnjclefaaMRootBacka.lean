/- The walk through RootBack. -/
import Derived.Test.YtihljjfnjclefaaMRta
import Derived.Test.YtihljjfnjclefaaMRtb
import Derived.Test.YtihljjfnjclefaaMRtc
import Derived.Test.YtihljjfnjclefaaMRtd
import Derived.Test.YtihljjfnjclefaaMRte
import Derived.Test.YtihljjfnjclefaaMRtf
import Derived.Test.YtihljjfnjclefaaMRtg
import Derived.Test.YtihljjfnjclefaaMRth
import Derived.Test.YtihljjfnjclefaaMRti
import Derived.Test.YtihljjfnjclefaaMRtj
import Derived.Test.YtihljjfnjclefaaMRtk
import Derived.Test.YtihljjfnjclefaaMRtl
set_option linter.unusedVariables false
set_option linter.unusedSimpArgs false
namespace Go.Proofs.Ytihljjfnjclefaa
open Go.ChangeShapes Go.WideShapes Go.ChangeAt Go.RowKit
attribute [local go_sem] nb_nonneg nb_lt8 nb_lt64
set_option maxRecDepth 100000

theorem rt_pick (z : Int) : ∃ n : Nat, pick z 4096 = (n : Int) ∧ n < 4096 := by
  have := pick_range z 4096 (by omega)
  exact ⟨(pick z 4096).toNat, by omega, by omega⟩
theorem rt_cellset {e : TypeId} {w : World} {base n g c : Nat} {vs : List Value} (h : OwnV e w base (.slice (some ⟨g, 0, none⟩) n c) vs) {j : Nat} (hj : j < vs.length) :
    w.cell? ⟨g, j, none⟩ = some vs[j] ∧ w.frozen? ⟨g, j, none⟩ = false ∧ ∀ u, OwnV e (w.setCell ⟨g, j, none⟩ u) base (.slice (some ⟨g, 0, none⟩) n c) (vs.set j u) := by
  obtain ⟨_, _, _, hn, _⟩ := OwnV.info h
  subst hn
  have hr := h
  unfold OwnV at hr
  refine ⟨?_, World.ownsRow.frozenAt hr j, fun u => ?_⟩
  · rw [World.ownsRow.cellAt hr j (by omega), List.getElem?_eq_getElem hj]
  · have := (World.ownsRow.stored hr j u).1
    unfold OwnV
    rw [List.length_set]
    exact this
set_option maxHeartbeats 3000000 in
theorem rootBack_walk (r : Rt) (B : Option Addr) (d : Nat) (b : List Byte) (at_ : Int) (by_ : BitVec 8) (w : World) (hc2 : b.length ≤ d) (hm2 : d ≤ maxLen) (hr2 : Rd w B b) (hat : -9223372036854775808 ≤ at_ ∧ at_ ≤ 9223372036854775807) :
    Calls Try.prog 5 #[rtV r, .slice B b.length d, .int .i64 at_, .int .u8 (nb by_)] w fun e w' => e = .returned (.bool true) ∧ Below w.heap.size w w' := by
  obtain ⟨W1, hW1⟩ : ∃ W1 : World, W1 = w.alloc (.cells (rtCs r) 29) := ⟨_, rfl⟩
  have HF0 := Lib.hid (show FB w W1 from by rw [hW1]; exact (FB.refl w).alloc _)
  have HP0 := Lib.hid (show W1.heap[w.heap.size]? = some (.cells (rtCs r) 29 (0, 0)) from by rw [hW1]; exact heap_alloc_new w _)
  have HW1 := Lib.hid hW1
  have HRB := Lib.hid hr2
  have HCB := Lib.hid (And.intro hc2 hm2)
  unfold rtV
  clear hr2 hc2 hm2 hat hW1
  go_enter Try.func5, Try.ntmps5
  go_upto_region 1 with fail
  rw [← HW1.out]
  clear HW1
  go_wp2_with fail
  refine (rt_lives _).mono ?_
  rintro e w1 ⟨rfl, hb⟩
  have HF1 := Lib.hid (HF0.out.trans hb)
  have HP1 := Lib.hid ((hb.block _ (Array.getElem?_eq_some_iff.1 HP0.out).1).trans HP0.out)
  clear hb HF0 HP0
  by_cases h2 : 5000 < b.length
  · have hz2 : 5000 < (b.length : Int) := by omega
    go_wp2
    go_ret
    exact ⟨rfl, HF1.out⟩
  · have hz2 : ¬ 5000 < (b.length : Int) := by omega
    have HLB := Lib.hid (show b.length ≤ 5000 from by omega)
    have HC := Lib.hid (kit_Own b B d w1 HCB.out.1 (by have := HLB.out; omega) (HF1.out.rd HRB.out))
    clear h2
    go_wp2_with fail
    refine HC.out.mono ?_
    rintro e w2 ⟨A27, c27, rfl, ho, hb⟩
    have hi := Own.info ho
    have HF2 := Lib.hid (HF1.out.call hb)
    have HP2 := Lib.hid ((FB.block hb _ (Array.getElem?_eq_some_iff.1 HP1.out).1).trans HP1.out)
    have hrd := rt_Read b A27 c27 w2 (by have := HLB.out; omega) hi.1 hi.2.1 hi.2.2.1
    obtain ⟨rr, hrr⟩ : ∃ rr, rr = rtR b := ⟨_, rfl⟩
    rw [← hrr] at hrd
    obtain ⟨s, er⟩ := rr
    have HRR := Lib.hid hrr
    unfold rtV rtCs at hrd
    have HC2 := Lib.hid hrd
    clear hrd hrr ho hb hi HC HF1 HP1
    go_wp2_with fail
    refine HC2.out.mono ?_
    rintro e w3 ⟨rfl, hb⟩
    obtain ⟨w4, hw4⟩ : ∃ w4 : World, w4 = w3.alloc (.cells (rtCs s) 29) := ⟨_, rfl⟩
    have hbb : FB w2 w4 := by rw [hw4]; exact hb.alloc _
    have HF3 := Lib.hid (HF2.out.trans hbb)
    have HP3 := Lib.hid ((hbb.block _ (Array.getElem?_eq_some_iff.1 HP2.out).1).trans HP2.out)
    have H93 := Lib.hid (show w4.heap[w3.heap.size]? = some (.cells (rtCs s) 29 (0, 0)) from by rw [hw4]; exact heap_alloc_new w3 _)
    have HG9 := Lib.hid (show w.heap.size < w3.heap.size from Nat.lt_of_lt_of_le (Array.getElem?_eq_some_iff.1 HP2.out).1 hb.le)
    have HW := Lib.hid (show w3.alloc (.cells #[.int .u64 (nb s.E), .int .u64 (nb s.P), .int .u64 (nb s.T), .int .u64 (nb s.S), .int .u64 (nb s.L), .int .u64 (nb s.a), .int .u64 (nb s.b), .int .u64 (nb s.c), .int .u64 (nb s.d)] 29) = w4 from hw4.symm)
    clear hb hbb hw4 HC2 HF2 HP2
    go_upto_region 6 with fail
    rw [HW.out]
    clear HW
    generalize w3.heap.size = g9 at *
    by_cases her : er = 0
    · subst her
      have hok := rtR_ok HRR.out.symm
      have hby := rt_Bytes s w4
      rw [hok] at hby
      unfold rtV rtCs at hby
      have HC3 := Lib.hid hby
      obtain ⟨q0, q1, q2, q3, q4, q5, q6, q7, q8⟩ := prow9 H93.out
      clear hok hby
      go_wp2_with fail
      clear q0 q1 q2 q3 q4 q5 q6 q7 q8
      refine HC3.out.mono ?_
      rintro e wt ⟨A11, c11, rfl, ho, hb⟩
      simp only at ho
      have hr11 := (Own.info ho).2.2.1
      have HFT := Lib.hid (HF3.out.trans hb)
      have HPT := Lib.hid ((hb.block _ (Array.getElem?_eq_some_iff.1 HP3.out).1).trans HP3.out)
      have H9T := Lib.hid ((hb.block _ (Array.getElem?_eq_some_iff.1 H93.out).1).trans H93.out)
      have hs1 := run_string c11 hr11
      have hs2 := run_string d (HFT.out.rd HRB.out)
      have hse : ((sb b).toList == (sb b).toList) = true := by simp
      clear ho hb hr11 HC3 HF3 HP3 H93 HRR
      go_upto_region 10 with fail
      clear hs1 hs2 hse
      obtain ⟨q0, q1, q2, q3, q4, q5, q6, q7, q8⟩ := prow9 HPT.out
      have hcw := rt_Bytes r wt
      unfold rtV rtCs at hcw
      cases hok : rtOk r with
      | true =>
        obtain ⟨ys, hys⟩ : ∃ ys, rtB r = (ys, 0) := ⟨_, rtB_of hok⟩
        rw [hys] at hcw
        have HYL := Lib.hid (show ys.length = 4096 from (rtB_ok hys).2.2.1)
        have HYR := Lib.hid (show rtR ys = (r, 0) from rtR_bytes hys)
        have HYB := Lib.hid hys
        have HC := Lib.hid hcw
        clear hcw hys hok
        go_wp2_with fail
        clear q0 q1 q2 q3 q4 q5 q6 q7 q8
        refine HC.out.mono ?_
        rintro e t1 ⟨A13, c13, rfl, ho, hb⟩
        simp only at ho
        rw [HYL.out] at ho ⊢
        have hi := Own.info ho
        obtain ⟨g13, rfl, hg1, -⟩ := OwnV.head0 ho (by rw [vbs_length, HYL.out]; omega)
        have HOY := Lib.hid ho
        have HCY := Lib.hid (show 4096 ≤ c13 ∧ c13 ≤ maxLen from ⟨by rw [← HYL.out]; exact hi.1, hi.2.1⟩)
        have HF1 := Lib.hid (HFT.out.trans hb)
        have HP1 := Lib.hid ((hb.block _ (Array.getElem?_eq_some_iff.1 HPT.out).1).trans HPT.out)
        have H91 := Lib.hid ((hb.block _ (Array.getElem?_eq_some_iff.1 H9T.out).1).trans H9T.out)
        have HGN := Lib.hid (show g9 < g13 from Nat.lt_of_lt_of_le (Array.getElem?_eq_some_iff.1 H9T.out).1 hg1)
        have hko := kit_Own ys (some ⟨g13, 0, none⟩) c13 t1 hi.1 (by rw [HYL.out]; omega) hi.2.2.1
        rw [HYL.out] at hko
        have HC2 := Lib.hid hko
        clear hko ho hb hi hg1 HC HFT HPT H9T
        go_wp2_with fail
        refine HC2.out.mono ?_
        rintro e t2 ⟨A14, c14, rfl, ho, hb⟩
        rw [← HYL.out] at ho
        have hi := Own.info ho
        have HF2 := Lib.hid (HF1.out.call hb)
        have HP2 := Lib.hid ((FB.block hb _ (Array.getElem?_eq_some_iff.1 HP1.out).1).trans HP1.out)
        have H92 := Lib.hid ((FB.block hb _ (Array.getElem?_eq_some_iff.1 H91.out).1).trans H91.out)
        have HOY2 := Lib.hid (FB.own hb HOY.out)
        have hrd := rt_Read ys A14 c14 t2 (by rw [HYL.out]; omega) hi.1 hi.2.1 hi.2.2.1
        rw [HYR.out, HYL.out] at hrd
        unfold rtV rtCs at hrd
        have HC3 := Lib.hid hrd
        clear hrd ho hb hi HC2 HF1 HP1 H91 HOY
        go_wp2_with fail
        refine HC3.out.mono ?_
        rintro e t3 ⟨rfl, hb⟩
        have HF3 := Lib.hid (HF2.out.trans hb)
        have HP3 := Lib.hid ((hb.block _ (Array.getElem?_eq_some_iff.1 HP2.out).1).trans HP2.out)
        have H93 := Lib.hid ((hb.block _ (Array.getElem?_eq_some_iff.1 H92.out).1).trans H92.out)
        have HOY3 := Lib.hid (FB.own hb HOY2.out)
        have hts := TS.tb (F := [g9]) (TB.setRow g9 t3 (rtCs r)) (by simp)
        have hst := rt_store s r H93.out
        unfold rtV rtCs at hst
        obtain ⟨t4, ht4⟩ : ∃ t4 : World, t4 = t3.setRow g9 (rtCs r) := ⟨_, rfl⟩
        have hst2 : (Instr.storeAt 29 (.pointer (some ⟨g9, 0, none⟩)) (.agg #[.int .u64 (nb r.E), .int .u64 (nb r.P), .int .u64 (nb r.T), .int .u64 (nb r.S), .int .u64 (nb r.L), .int .u64 (nb r.a), .int .u64 (nb r.b), .int .u64 (nb r.c), .int .u64 (nb r.d)])).run Try.prog t3 = .ok () t4 := by rw [ht4]; exact hst
        have HF4 := Lib.hid (show FB w t4 from by rw [ht4]; exact HF3.out.setRow (g := g9) (by have := HG9.out; omega) (rtCs r))
        have HP4 := Lib.hid (show t4.heap[w.heap.size]? = some (.cells (rtCs r) 29 (0, 0)) from by rw [ht4]; exact (hts.block _ (Array.getElem?_eq_some_iff.1 HP3.out).1 (by have := HG9.out; simp; omega)).trans HP3.out)
        have H94 := Lib.hid (show t4.heap[g9]? = some (.cells (rtCs r) 29 (0, 0)) from by rw [ht4]; exact setRow_heap t3 g9 _ (rtCs r) _ _ H93.out)
        have HOY4 := Lib.hid (show Own t4 _ (.slice (some ⟨g13, 0, none⟩) 4096 c13) ys from by rw [ht4]; exact hts.ownV HOY3.out (fun k hk hm => by cases hk; have := HGN.out; simp at hm; omega))
        clear hb hts hst ht4 HC3 HF2 HP2 H92 HOY2 HF3 HP3 H93 HOY3
        have hq : ∀ w, (binOp .neq 29 (.agg #[.int .u64 (nb r.E), .int .u64 (nb r.P), .int .u64 (nb r.T), .int .u64 (nb r.S), .int .u64 (nb r.L), .int .u64 (nb r.a), .int .u64 (nb r.b), .int .u64 (nb r.c), .int .u64 (nb r.d)]) (.agg #[.int .u64 (nb r.E), .int .u64 (nb r.P), .int .u64 (nb r.T), .int .u64 (nb r.S), .int .u64 (nb r.L), .int .u64 (nb r.a), .int .u64 (nb r.b), .int .u64 (nb r.c), .int .u64 (nb r.d)])).run Try.prog w = .ok (.bool false) w := fun w => by have h := rt_neq r r w; rw [rtEq_self] at h; exact h
        have hqg : ∀ op x y xs ys w, (eqGuard op 29 x y (.agg xs) (.agg ys)).run Try.prog w = .ok () w := fun op x y xs ys w => rt_eqGuard op x y xs ys w
        go_upto_region 14 with (refine wpList_store_by rfl _ _ _ rfl _ hst2 ?_)
        clear hst2
        have qa := prow9 HP4.out
        have qb := prow9 H94.out
        go_upto_region 16 with fail
        clear qa qb hq hqg
        obtain ⟨j, hj, hjl⟩ := rt_pick at_
        have hjz : (j : Int) < 4096 := by omega
        have hpk := kit_Pick at_ 4096 t4 (by omega) (by omega)
        rw [hj] at hpk
        have HCP := Lib.hid hpk
        have hji : j < ys.length := by rw [HYL.out]; exact hjl
        obtain ⟨s0, sf, sset⟩ := rt_cellset HOY4.out (j := j) (by rw [vbs_length]; exact hji)
        rw [vbs_get ys j hji] at s0
        unfold vb at s0
        obtain ⟨yj, hyj⟩ : ∃ yj, yj = ys[j] := ⟨_, rfl⟩
        rw [← hyj] at s0
        have hxo := bits_xor8 yj by_
        obtain ⟨zs, hzs⟩ : ∃ zs, zs = ys.set j (ys[j] ^^^ by_) := ⟨_, rfl⟩
        have HZL := Lib.hid (show zs.length = 4096 from by rw [hzs, List.length_set, HYL.out])
        have HOZ := Lib.hid (show Own (t4.setCell ⟨g13, j, none⟩ (.int .u8 (nb (yj ^^^ by_)))) _ (.slice (some ⟨g13, 0, none⟩) 4096 c13) zs from by
          have q := sset (vb (yj ^^^ by_))
          unfold Own
          rw [hzs, show vbs (ys.set j (ys[j] ^^^ by_)) = (vbs ys).set j (vb (yj ^^^ by_)) from by unfold vbs; rw [List.map_set, hyj]]
          exact q)
        have HF6 := Lib.hid (HF4.out.set (p := ⟨g13, j, none⟩) (by have h1 := HGN.out; have h2 := HG9.out; simp; omega) (.int .u8 (nb (yj ^^^ by_))))
        have HEQ := Lib.hid (show (((rtR zs).2 == 0) == (nb by_ == 0)) = true from by
          have h1 := rt_change HYB.out j hji by_
          rw [← hzs] at h1
          by_cases hby : by_ = 0#8
          · rw [h1.2 hby, hby]; rfl
          · have e1 : (nb by_ == 0) = false := by rw [nb_beq0]; simpa using hby
            have e2 : ((rtR zs).2 == 0) = false := by
              rw [beq_eq_false_iff_ne]
              exact fun he => hby (h1.1 he)
            rw [e1, e2]; rfl)
        have hrd := rt_Read zs (some ⟨g13, 0, none⟩) c13 _ (by rw [HZL.out]; omega) (by rw [HZL.out]; exact HCY.out.1) HCY.out.2 (Own.info HOZ.out).2.2.1
        rw [HZL.out] at hrd
        have HC7 := Lib.hid hrd
        generalize rtR zs = rz at *
        obtain ⟨z1, ez⟩ := rz
        simp only at HEQ
        clear hrd hpk sset hzs hyj hj hjl hji HOZ
        go_wp2_with fail
        refine HCP.out.mono ?_
        rintro e w8 ⟨rfl, rfl⟩
        go_wp2_with fail
        clear s0 sf hxo
        refine HC7.out.mono ?_
        rintro e w9 ⟨rfl, hb⟩
        have HE := Lib.hid (HF6.out.trans hb)
        have heq := HEQ.out
        clear hb
        go_wp2
        go_ret
        exact ⟨rfl, HE.out⟩
      | false =>
        rw [rtB_off hok] at hcw
        have HC := Lib.hid hcw
        have HCH := Lib.hid (show rtChk r = 2 from by unfold rtChk; rw [hok]; rfl)
        clear hcw hok
        go_wp2_with fail
        clear q0 q1 q2 q3 q4 q5 q6 q7 q8
        refine HC.out.mono ?_
        rintro e t1 ⟨A13, c13, rfl, -, hb⟩
        have HP1 := Lib.hid ((hb.block _ (Array.getElem?_eq_some_iff.1 HPT.out).1).trans HPT.out)
        have HF1 := Lib.hid (HFT.out.trans hb)
        obtain ⟨q0, q1, q2, q3, q4, q5, q6, q7, q8⟩ := prow9 HP1.out
        have hck := rt_Check r t1
        rw [HCH.out] at hck
        unfold rtV rtCs at hck
        have HC2 := Lib.hid hck
        clear hb hck
        go_wp2_with fail
        refine HC2.out.mono ?_
        rintro e t2 ⟨rfl, hb⟩
        have HE := Lib.hid (HF1.out.trans hb)
        clear hb
        go_wp2
        go_ret
        exact ⟨rfl, HE.out⟩
    · have heb : (er == 0) = false := by simpa using her
      clear her HRR
      go_upto_region 10 with fail
      obtain ⟨wt, hwt⟩ : ∃ wt : World, wt = w4 := ⟨_, rfl⟩
      rw [← hwt] at HF3 HP3 H93 ⊢
      have HFT := HF3
      have HPT := HP3
      have H9T := H93
      clear HF3 HP3 H93 heb hwt
      obtain ⟨q0, q1, q2, q3, q4, q5, q6, q7, q8⟩ := prow9 HPT.out
      have hcw := rt_Bytes r wt
      unfold rtV rtCs at hcw
      cases hok : rtOk r with
      | true =>
        obtain ⟨ys, hys⟩ : ∃ ys, rtB r = (ys, 0) := ⟨_, rtB_of hok⟩
        rw [hys] at hcw
        have HYL := Lib.hid (show ys.length = 4096 from (rtB_ok hys).2.2.1)
        have HYR := Lib.hid (show rtR ys = (r, 0) from rtR_bytes hys)
        have HYB := Lib.hid hys
        have HC := Lib.hid hcw
        clear hcw hys hok
        go_wp2_with fail
        clear q0 q1 q2 q3 q4 q5 q6 q7 q8
        refine HC.out.mono ?_
        rintro e t1 ⟨A13, c13, rfl, ho, hb⟩
        simp only at ho
        rw [HYL.out] at ho ⊢
        have hi := Own.info ho
        obtain ⟨g13, rfl, hg1, -⟩ := OwnV.head0 ho (by rw [vbs_length, HYL.out]; omega)
        have HOY := Lib.hid ho
        have HCY := Lib.hid (show 4096 ≤ c13 ∧ c13 ≤ maxLen from ⟨by rw [← HYL.out]; exact hi.1, hi.2.1⟩)
        have HF1 := Lib.hid (HFT.out.trans hb)
        have HP1 := Lib.hid ((hb.block _ (Array.getElem?_eq_some_iff.1 HPT.out).1).trans HPT.out)
        have H91 := Lib.hid ((hb.block _ (Array.getElem?_eq_some_iff.1 H9T.out).1).trans H9T.out)
        have HGN := Lib.hid (show g9 < g13 from Nat.lt_of_lt_of_le (Array.getElem?_eq_some_iff.1 H9T.out).1 hg1)
        have hko := kit_Own ys (some ⟨g13, 0, none⟩) c13 t1 hi.1 (by rw [HYL.out]; omega) hi.2.2.1
        rw [HYL.out] at hko
        have HC2 := Lib.hid hko
        clear hko ho hb hi hg1 HC HFT HPT H9T
        go_wp2_with fail
        refine HC2.out.mono ?_
        rintro e t2 ⟨A14, c14, rfl, ho, hb⟩
        rw [← HYL.out] at ho
        have hi := Own.info ho
        have HF2 := Lib.hid (HF1.out.call hb)
        have HP2 := Lib.hid ((FB.block hb _ (Array.getElem?_eq_some_iff.1 HP1.out).1).trans HP1.out)
        have H92 := Lib.hid ((FB.block hb _ (Array.getElem?_eq_some_iff.1 H91.out).1).trans H91.out)
        have HOY2 := Lib.hid (FB.own hb HOY.out)
        have hrd := rt_Read ys A14 c14 t2 (by rw [HYL.out]; omega) hi.1 hi.2.1 hi.2.2.1
        rw [HYR.out, HYL.out] at hrd
        unfold rtV rtCs at hrd
        have HC3 := Lib.hid hrd
        clear hrd ho hb hi HC2 HF1 HP1 H91 HOY
        go_wp2_with fail
        refine HC3.out.mono ?_
        rintro e t3 ⟨rfl, hb⟩
        have HF3 := Lib.hid (HF2.out.trans hb)
        have HP3 := Lib.hid ((hb.block _ (Array.getElem?_eq_some_iff.1 HP2.out).1).trans HP2.out)
        have H93 := Lib.hid ((hb.block _ (Array.getElem?_eq_some_iff.1 H92.out).1).trans H92.out)
        have HOY3 := Lib.hid (FB.own hb HOY2.out)
        have hts := TS.tb (F := [g9]) (TB.setRow g9 t3 (rtCs r)) (by simp)
        have hst := rt_store s r H93.out
        unfold rtV rtCs at hst
        obtain ⟨t4, ht4⟩ : ∃ t4 : World, t4 = t3.setRow g9 (rtCs r) := ⟨_, rfl⟩
        have hst2 : (Instr.storeAt 29 (.pointer (some ⟨g9, 0, none⟩)) (.agg #[.int .u64 (nb r.E), .int .u64 (nb r.P), .int .u64 (nb r.T), .int .u64 (nb r.S), .int .u64 (nb r.L), .int .u64 (nb r.a), .int .u64 (nb r.b), .int .u64 (nb r.c), .int .u64 (nb r.d)])).run Try.prog t3 = .ok () t4 := by rw [ht4]; exact hst
        have HF4 := Lib.hid (show FB w t4 from by rw [ht4]; exact HF3.out.setRow (g := g9) (by have := HG9.out; omega) (rtCs r))
        have HP4 := Lib.hid (show t4.heap[w.heap.size]? = some (.cells (rtCs r) 29 (0, 0)) from by rw [ht4]; exact (hts.block _ (Array.getElem?_eq_some_iff.1 HP3.out).1 (by have := HG9.out; simp; omega)).trans HP3.out)
        have H94 := Lib.hid (show t4.heap[g9]? = some (.cells (rtCs r) 29 (0, 0)) from by rw [ht4]; exact setRow_heap t3 g9 _ (rtCs r) _ _ H93.out)
        have HOY4 := Lib.hid (show Own t4 _ (.slice (some ⟨g13, 0, none⟩) 4096 c13) ys from by rw [ht4]; exact hts.ownV HOY3.out (fun k hk hm => by cases hk; have := HGN.out; simp at hm; omega))
        clear hb hts hst ht4 HC3 HF2 HP2 H92 HOY2 HF3 HP3 H93 HOY3
        have hq : ∀ w, (binOp .neq 29 (.agg #[.int .u64 (nb r.E), .int .u64 (nb r.P), .int .u64 (nb r.T), .int .u64 (nb r.S), .int .u64 (nb r.L), .int .u64 (nb r.a), .int .u64 (nb r.b), .int .u64 (nb r.c), .int .u64 (nb r.d)]) (.agg #[.int .u64 (nb r.E), .int .u64 (nb r.P), .int .u64 (nb r.T), .int .u64 (nb r.S), .int .u64 (nb r.L), .int .u64 (nb r.a), .int .u64 (nb r.b), .int .u64 (nb r.c), .int .u64 (nb r.d)])).run Try.prog w = .ok (.bool false) w := fun w => by have h := rt_neq r r w; rw [rtEq_self] at h; exact h
        have hqg : ∀ op x y xs ys w, (eqGuard op 29 x y (.agg xs) (.agg ys)).run Try.prog w = .ok () w := fun op x y xs ys w => rt_eqGuard op x y xs ys w
        go_upto_region 14 with (refine wpList_store_by rfl _ _ _ rfl _ hst2 ?_)
        clear hst2
        have qa := prow9 HP4.out
        have qb := prow9 H94.out
        go_upto_region 16 with fail
        clear qa qb hq hqg
        obtain ⟨j, hj, hjl⟩ := rt_pick at_
        have hjz : (j : Int) < 4096 := by omega
        have hpk := kit_Pick at_ 4096 t4 (by omega) (by omega)
        rw [hj] at hpk
        have HCP := Lib.hid hpk
        have hji : j < ys.length := by rw [HYL.out]; exact hjl
        obtain ⟨s0, sf, sset⟩ := rt_cellset HOY4.out (j := j) (by rw [vbs_length]; exact hji)
        rw [vbs_get ys j hji] at s0
        unfold vb at s0
        obtain ⟨yj, hyj⟩ : ∃ yj, yj = ys[j] := ⟨_, rfl⟩
        rw [← hyj] at s0
        have hxo := bits_xor8 yj by_
        obtain ⟨zs, hzs⟩ : ∃ zs, zs = ys.set j (ys[j] ^^^ by_) := ⟨_, rfl⟩
        have HZL := Lib.hid (show zs.length = 4096 from by rw [hzs, List.length_set, HYL.out])
        have HOZ := Lib.hid (show Own (t4.setCell ⟨g13, j, none⟩ (.int .u8 (nb (yj ^^^ by_)))) _ (.slice (some ⟨g13, 0, none⟩) 4096 c13) zs from by
          have q := sset (vb (yj ^^^ by_))
          unfold Own
          rw [hzs, show vbs (ys.set j (ys[j] ^^^ by_)) = (vbs ys).set j (vb (yj ^^^ by_)) from by unfold vbs; rw [List.map_set, hyj]]
          exact q)
        have HF6 := Lib.hid (HF4.out.set (p := ⟨g13, j, none⟩) (by have h1 := HGN.out; have h2 := HG9.out; simp; omega) (.int .u8 (nb (yj ^^^ by_))))
        have HEQ := Lib.hid (show (((rtR zs).2 == 0) == (nb by_ == 0)) = true from by
          have h1 := rt_change HYB.out j hji by_
          rw [← hzs] at h1
          by_cases hby : by_ = 0#8
          · rw [h1.2 hby, hby]; rfl
          · have e1 : (nb by_ == 0) = false := by rw [nb_beq0]; simpa using hby
            have e2 : ((rtR zs).2 == 0) = false := by
              rw [beq_eq_false_iff_ne]
              exact fun he => hby (h1.1 he)
            rw [e1, e2]; rfl)
        have hrd := rt_Read zs (some ⟨g13, 0, none⟩) c13 _ (by rw [HZL.out]; omega) (by rw [HZL.out]; exact HCY.out.1) HCY.out.2 (Own.info HOZ.out).2.2.1
        rw [HZL.out] at hrd
        have HC7 := Lib.hid hrd
        generalize rtR zs = rz at *
        obtain ⟨z1, ez⟩ := rz
        simp only at HEQ
        clear hrd hpk sset hzs hyj hj hjl hji HOZ
        go_wp2_with fail
        refine HCP.out.mono ?_
        rintro e w8 ⟨rfl, rfl⟩
        go_wp2_with fail
        clear s0 sf hxo
        refine HC7.out.mono ?_
        rintro e w9 ⟨rfl, hb⟩
        have HE := Lib.hid (HF6.out.trans hb)
        have heq := HEQ.out
        clear hb
        go_wp2
        go_ret
        exact ⟨rfl, HE.out⟩
      | false =>
        rw [rtB_off hok] at hcw
        have HC := Lib.hid hcw
        have HCH := Lib.hid (show rtChk r = 2 from by unfold rtChk; rw [hok]; rfl)
        clear hcw hok
        go_wp2_with fail
        clear q0 q1 q2 q3 q4 q5 q6 q7 q8
        refine HC.out.mono ?_
        rintro e t1 ⟨A13, c13, rfl, -, hb⟩
        have HP1 := Lib.hid ((hb.block _ (Array.getElem?_eq_some_iff.1 HPT.out).1).trans HPT.out)
        have HF1 := Lib.hid (HFT.out.trans hb)
        obtain ⟨q0, q1, q2, q3, q4, q5, q6, q7, q8⟩ := prow9 HP1.out
        have hck := rt_Check r t1
        rw [HCH.out] at hck
        unfold rtV rtCs at hck
        have HC2 := Lib.hid hck
        clear hb hck
        go_wp2_with fail
        refine HC2.out.mono ?_
        rintro e t2 ⟨rfl, hb⟩
        have HE := Lib.hid (HF1.out.trans hb)
        clear hb
        go_wp2
        go_ret
        exact ⟨rfl, HE.out⟩
end Go.Proofs.Ytihljjfnjclefaa
