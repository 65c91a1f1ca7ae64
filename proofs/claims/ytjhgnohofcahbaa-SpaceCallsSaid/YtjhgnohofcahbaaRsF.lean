/- the reference of layer 8: Bytes. -/
import Derived.Test.YtjhgnohofcahbaaRsE
import Derived.Test.YtjhgnohofcahbaaSpJ
import Derived.Laws.BitsLemmas
import Derived.Deep.Cut
set_option linter.unusedVariables false
set_option linter.unusedSimpArgs false
namespace Go.Proofs.Ytjhgnohofcahbaa
open Go.ChangeShapes Go.WideShapes Go.ChangeAt Go.RowKit
attribute [local go_sem] nb_nonneg nb_lt8 nb_lt64
set_option maxRecDepth 100000

theorem shl1_add (x : Byte) (r : Nat) (hr : r < 8) (h : x.getLsbD r = false) : IntKind.u8.wrap (nb x + nb ((1#8 : BitVec 8) <<< r)) = nb (x ||| ((1#8 : BitVec 8) <<< r)) := by
  have e : x + ((1#8 : BitVec 8) <<< r) = x ||| ((1#8 : BitVec 8) <<< r) := by
    refine BitVec.add_eq_or_of_and_eq_zero _ _ (byteOf_ext fun j hj => ?_)
    rw [BitVec.getLsbD_and, shl1_get ⟨r, hr⟩ ⟨j, hj⟩]
    by_cases k : j = r
    · subst k; rw [h]; simp
    · simp [k]
  rw [← e, IntKind.wrap_u8]
  unfold nb
  rw [BitVec.toNat_add]
  omega
theorem spBt_bit (us : List Bool) (j : Nat) : (spBt us j (j / 8)).getLsbD (j % 8) = false := by
  unfold spBt
  rw [byteOf_get _ (by omega), show decide (8 * (j / 8) + j % 8 < j) = false from by simp only [decide_eq_false_iff_not]; omega]
  rfl
theorem spBits_grow {us : List Bool} {j : Nat} (h : j % 8 = 0) : spBits us (j / 8) j ++ [0#8] = spBits us (j / 8 + 1) j := by
  unfold spBits
  rw [List.range_succ, List.map_append, List.map_singleton]
  congr 2
  symm
  refine byteOf_ext fun i hi => ?_
  unfold spBt
  rw [byteOf_get _ hi, show decide (8 * (j / 8) + i < j) = false from by simp only [decide_eq_false_iff_not]; omega]
  simp
theorem by_set {us : List Bool} {m : BitVec 64} {j : Nat} (h : us.getD j false = true) : (vbs (oword 4 m ++ spBits us (j / 8 + 1) j)).set (4 + j / 8) (vb (spBt us j (j / 8) ||| ((1#8 : BitVec 8) <<< (j % 8)))) = vbs (oword 4 m ++ spBits us (j / 8 + 1) (j + 1)) := by
  rw [spBits_used h (by omega)]
  unfold vbs
  rw [← List.map_set, List.set_append, oword_len, if_neg (by omega), Nat.add_sub_cancel_left]
theorem by_get {us : List Bool} {m : BitVec 64} {j : Nat} (h : 4 + j / 8 < (vbs (oword 4 m ++ spBits us (j / 8 + 1) j)).length) : (vbs (oword 4 m ++ spBits us (j / 8 + 1) j))[4 + j / 8] = .int .u8 (nb (spBt us j (j / 8))) := by
  have e := spBits_get (us := us) (k := j) (show j / 8 < j / 8 + 1 by omega)
  have e2 : (vbs (oword 4 m ++ spBits us (j / 8 + 1) j))[4 + j / 8]? = some (.int .u8 (nb (spBt us j (j / 8)))) := by
    unfold vbs
    rw [List.getElem?_map, List.getElem?_append_right (by rw [oword_len]; omega), oword_len, Nat.add_sub_cancel_left, e]; rfl
  rw [List.getElem?_eq_getElem h] at e2
  exact Option.some.inj e2
theorem Rd.lit0 (w : World) : Rd (w.alloc (.cells #[.int .u8 0] 5)) (some ⟨w.heap.size, 0, none⟩) [0#8] := RdV.lit w (vbs [0#8]) 5 rfl
set_option maxHeartbeats 2000000 in
theorem rs_Bytes (P : Int) (us : List Bool) (A : Option Addr) (c : Nat) (w : World) (hr : RdV w A (us.map .bool)) (hl : us.length ≤ 1000000000) :
    Calls Try.prog 41 #[.agg #[.int .i64 P, .slice A us.length c]] w fun e w' => SpBy (spBytesR P us) w e w' := by
  have HF := Lib.hid ((FB.refl w).alloc (.cells #[.int .i64 P, .slice A us.length c] 41))
  have HB := Lib.hid (heap_alloc_new w (.cells #[.int .i64 P, .slice A us.length c] 41))
  have HSZ := Lib.hid (show (w.alloc (.cells #[.int .i64 P, .slice A us.length c] 41)).heap.size = w.heap.size + 1 from by simp)
  have HR := Lib.hid hr
  obtain ⟨W1, hW1⟩ : ∃ W1 : World, W1 = w.alloc (.cells #[.int .i64 P, .slice A us.length c] 41) := ⟨_, rfl⟩
  rw [← hW1] at HF HB HSZ
  have HCK := Lib.hid (rs_Check P us A c W1 (HF.out.rdV hr) (by omega))
  clear hr
  obtain ⟨R, hR⟩ : ∃ R, R = spBytesR P us := ⟨_, rfl⟩
  rw [← hR]
  unfold spBytesR at hR
  by_cases hok : spOk P us = true
  · rw [if_pos hok] at hR
    have HRR := Lib.hid hR
    rw [show spChk P us = 0 from by unfold spChk; rw [if_pos hok]] at HCK
    have h3 := spOk_iff.1 hok
    have HPU := Lib.hid (show P = (us.length : Int) from h3.2.2.1.symm)
    have HPB := Lib.hid (show 8 ≤ P ∧ P ≤ 4096 from ⟨h3.1, h3.2.1⟩)
    have hm : nb (BitVec.ofInt 64 P) = P := nb_ofInt _ (by omega) (by omega)
    have HWD := Lib.hid (fun W => by
      have := ref_Word [] none 0 0 (BitVec.ofInt 64 P) 4 W rfl (by simp) (Rd.nil _ _) (.inr (.inl rfl))
      rw [hm, List.nil_append, show owordZ 4 (BitVec.ofInt 64 P) = oword 4 (BitVec.ofInt 64 P) from rfl] at this
      exact this)
    obtain ⟨m, hmm⟩ : ∃ m, m = BitVec.ofInt 64 P := ⟨_, rfl⟩
    have HM := Lib.hid hmm
    rw [← hmm] at HWD
    have hw64 : IntKind.u64.wrap P = P := by rw [IntKind.wrap_u64]; omega
    clear hR hok h3 hm hmm hl
    go_enter Try.func41, Try.ntmps41
    go_wp2_with fail
    rw [← hW1]
    clear hW1
    refine HCK.out.mono ?_
    rintro e w1 ⟨rfl, hb⟩
    have HB1 := Lib.hid ((hb.block _ (Array.getElem?_eq_some_iff.1 HB.out).1).trans HB.out)
    have HG1 := Lib.hid (show w.heap.size + 1 ≤ w1.heap.size from by rw [← HSZ.out]; exact hb.le)
    have HF1 := Lib.hid (HF.out.trans hb)
    obtain ⟨q0, q1⟩ := row2 HB1.out
    clear hb HCK HB HF HSZ
    go_wp2_with fail
    refine (HWD.out _).mono ?_
    rintro e w2 ⟨v2, rfl, ho, hb⟩
    have HF2 := Lib.hid (FB.refl w1 |>.call hb)
    have HO2 := Lib.hid (Own.lower ho HG1.out)
    clear hb ho q0 q1 hw64
    go_wp2_with fail
    go_loopw [4, 5] (fun c4 c5 wl => ∃ j : Nat, j ≤ us.length ∧ c5 = .int .i64 j ∧ Hid (Own wl (w.heap.size + 1) c4 (oword 4 m ++ spBits us ((j + 7) / 8) j)) ∧ Hid (FB w wl) ∧ Hid (wl.heap[w.heap.size]? = some (.cells #[.int .i64 P, .slice A us.length c] 41 (0, 0)))) (fun c4 c5 wl => us.length - (intOf c5).toNat)
    case atStart => exact ⟨0, by omega, rfl, Lib.hid (by simpa [spBits] using HO2.out), HF1.out.trans HF2.out, (HF2.out.block _ (Array.getElem?_eq_some_iff.1 HB1.out).1).trans HB1.out⟩
    case round =>
      obtain ⟨j, hj, rfl, HO, HW, HX⟩ := hrel
      obtain ⟨q0, q1⟩ := row2 HX.out
      by_cases hlt : j < us.length
      · have hjP : (j : Int) < P := by rw [HPU.out]; omega
        have hju : (j : Int) < (us.length : Int) := by omega
        have HLT := Lib.hid hlt
        obtain ⟨r, hr⟩ : ∃ r, r = j % 8 := ⟨_, rfl⟩
        obtain ⟨a, ha⟩ : ∃ a, a = j / 8 := ⟨_, rfl⟩
        have hm1 : (j : Int).tmod 8 = (r : Int) := by rw [Int.tmod_eq_emod_of_nonneg (by omega), hr]; omega
        have hm2 : (j : Int) % 8 = (r : Int) := by rw [hr]; omega
        have hr8 : r < 8 := by omega
        have hrl2 : (r : Int) < 8 := by omega
        have hrl0 : (0 : Int) ≤ (r : Int) := by omega
        have hwr : IntKind.i64.wrap (r : Int) = (r : Int) := by rw [IntKind.wrap_i64]; omega
        have hwr2 : IntKind.u64.wrap (r : Int) = (r : Int) := by rw [IntKind.wrap_u64]; omega
        have hwj : IntKind.i64.wrap ((j : Int) + 1) = (j : Int) + 1 := by rw [IntKind.wrap_i64]; have := HPB.out; have := HPU.out; omega
        have hsh := shl1 r hr8
        have had := shl1_add (spBt us j a) r hr8 (by rw [ha, hr]; exact spBt_bit us j)
        have HSH := Lib.hid hsh
        have HAD := Lib.hid had
        have HA := Lib.hid (And.intro ha hr)
        have HAB := Lib.hid (show a ≤ 512 from by have := HPB.out; have := HPU.out; omega)
        obtain ⟨q, hq⟩ : ∃ q, q = 4 + a := ⟨_, rfl⟩
        have HQ := Lib.hid hq
        have hwq : IntKind.i64.wrap (q : Int) = (q : Int) := by rw [IntKind.wrap_i64]; have := HAB.out; omega
        have hwq1 : IntKind.i64.wrap (((q : Int) + 1) - 1) = (q : Int) := by rw [IntKind.wrap_i64]; have := HAB.out; omega
        have hwq3 : ((q + 1 : Nat) : Int) = (q : Int) + 1 := by omega
        have hwq2 : (q : Int) < (q : Int) + 1 := by omega
        have hln : ∀ L, (oword 4 m ++ spBits us L j).length = 4 + L := fun L => by rw [List.length_append, oword_len, spBits_len]
        have HLN := Lib.hid hln
        have HRA := Lib.hid (HW.out.rdV HR.out)
        obtain ⟨b, o, rfl, hcell0⟩ := RdV.bcell HRA.out hlt
        rw [← getD_at hlt] at hcell0
        have HC0 := Lib.hid hcell0
        obtain ⟨u, hu⟩ : ∃ u, u = us.getD j false := ⟨_, rfl⟩
        rw [← hu] at HC0
        have HU := Lib.hid hu
        clear hcell0 hlt hr8 hsh had hu hln
        by_cases hr0 : r = 0
        · have hrb : ((r : Int) == 0) = true := by simp [hr0]
          have HOE := Lib.hid (show oword 4 m ++ spBits us ((j + 7) / 8) j ++ [0#8] = oword 4 m ++ spBits us (a + 1) j from by
            rw [List.append_assoc, show (j + 7) / 8 = j / 8 from by omega, spBits_grow (by omega), ha])
          have HOL := Lib.hid (show (oword 4 m ++ spBits us ((j + 7) / 8) j).length ≤ 1000 from by rw [HLN.out]; have := HAB.out; omega)
          have HGS := Lib.hid (show w.heap.size + 1 ≤ wr.heap.size from Nat.lt_of_lt_of_le (Nat.lt_succ_self _) (by have := (Array.getElem?_eq_some_iff.1 HX.out).1; omega))
          clear hr0 ha hr hq
          go_upto_region 9 with (at_builtin; refine wpList_append_bytes rfl _ _ rfl (w.heap.size + 1) _ _ (HO.out.alloc _) rfl (some ⟨wr.heap.size, 0, none⟩) 1 [0#8] rfl (Rd.lit0 wr) (by have := HOL.out; simp at *; omega) (by have := HGS.out; simp; omega) ?_; intro v' w3 ho hg _; have HO3 := Lib.hid ho; have HG := Lib.hid hg; clear ho hg)
          have HW3 := Lib.hid ((HW.out.alloc (.cells #[.int .u8 0] 5)).grown HG.out (fun k hk => by have := (OwnV.base HO.out k hk).1; omega))
          have HX3 := Lib.hid ((HG.out.block _ (by have := HGS.out; simp; omega) (fun e => by have := (OwnV.base HO.out _ e.symm).1; omega)).trans (((FB.refl wr).alloc (.cells #[.int .u8 0] 5)).block _ (Array.getElem?_eq_some_iff.1 HX.out).1 |>.trans HX.out))
          rw [HOE.out] at HO3
          have HC3 := Lib.hid (show w3.cell? ⟨b, o + j, none⟩ = some (.bool u) from by rw [HU.out, getD_at HLT.out]; obtain ⟨b', o', e', h'⟩ := RdV.bcell (HW3.out.rdV HR.out) HLT.out; cases e'; exact h')
          clear q0 q1 HO HW HX HC0 HRA HOE HOL HG
          obtain ⟨A3, c3, rfl, -, -, -, -⟩ := Own.form HO3.out
          rw [HLN.out, show 4 + (a + 1) = q + 1 from by have := HQ.out; omega] at HO3 ⊢
          obtain ⟨g, rfl, hg1, hg2⟩ := OwnV.head0 HO3.out (by rw [vbs_length, HLN.out]; omega)
          obtain ⟨s0, sf, sset⟩ := OwnV.cellset HO3.out (j := q) (by rw [vbs_length, HLN.out]; have := HQ.out; omega)
          have HS1 := Lib.hid (show ((vbs (oword 4 m ++ spBits us (a + 1) j))[q]'(by rw [vbs_length, HLN.out]; have := HQ.out; omega)) = .int .u8 (nb (spBt us j a)) from by
            obtain ⟨e1, e2⟩ := HA.out
            have e3 := HQ.out
            subst e1
            subst e3
            exact by_get _)
          rw [HS1.out] at s0
          have HG3 := Lib.hid hg1
          obtain ⟨q2, q3⟩ := row2 HX3.out
          have hcell := HC3.out
          clear hg1 hg2
          cases u
          · have HO4 := Lib.hid (show Own w3 (w.heap.size + 1) (.slice (some ⟨g, 0, none⟩) (q + 1) c3) (oword 4 m ++ spBits us ((j + 1 + 7) / 8) (j + 1)) from by
              rw [spBits_free HU.out.symm, show (j + 1 + 7) / 8 = a + 1 from by have := HA.out; omega]; exact HO3.out)
            clear s0 sf sset
            go_wp2_with fail
            go_roundw
            case rel => exact ⟨j + 1, by have := HLT.out; omega, by go_num, HO4.out, HW3.out, HX3.out⟩
            case measure => have := HLT.out; simp [intOf]; omega
          · have HO4 := Lib.hid (show Own (w3.setCell ⟨g, q, none⟩ (.int .u8 (nb (spBt us j a ||| ((1#8 : BitVec 8) <<< r))))) (w.heap.size + 1) (.slice (some ⟨g, 0, none⟩) (q + 1) c3) (oword 4 m ++ spBits us ((j + 1 + 7) / 8) (j + 1)) from by
              rw [show (j + 1 + 7) / 8 = a + 1 from by have := HA.out; omega]
              have h1 := sset (.int .u8 (nb (spBt us j a ||| ((1#8 : BitVec 8) <<< r))))
              have h2 := by_set (us := us) (m := m) (j := j) HU.out.symm
              obtain ⟨e1, e2⟩ := HA.out
              rw [← e1, ← e2, ← HQ.out] at h2
              unfold Own
              rw [← h2]
              exact h1)
            have HW4 := Lib.hid (HW3.out.set (p := ⟨g, q, none⟩) (by have := HG3.out; simp; omega) (.int .u8 (nb (spBt us j a ||| ((1#8 : BitVec 8) <<< r)))))
            have HX4 := Lib.hid (((show TS [g] w3 (w3.setCell ⟨g, q, none⟩ (.int .u8 (nb (spBt us j a ||| ((1#8 : BitVec 8) <<< r))))) from TS.tb (TB.set w3 q _) (by simp)).block w.heap.size (Array.getElem?_eq_some_iff.1 HX3.out).1 (by have := HG3.out; simp; omega)).trans HX3.out)
            have hsh := HSH.out
            have had := HAD.out
            clear sset
            go_wp2_with fail
            go_roundw
            case rel => exact ⟨j + 1, by have := HLT.out; omega, by go_num, HO4.out, HW4.out, HX4.out⟩
            case measure => have := HLT.out; simp [intOf]; omega
        · have hrb : ((r : Int) == 0) = false := by simpa using hr0
          have HO3 := Lib.hid (show Own wr (w.heap.size + 1) u4 (oword 4 m ++ spBits us (a + 1) j) from by
            have := HO.out
            rw [show (j + 7) / 8 = a + 1 from by omega] at this
            exact this)
          obtain ⟨w3, hw3⟩ : ∃ w3 : World, w3 = wr := ⟨_, rfl⟩
          rw [← hw3] at HO3 HW HX HC0 q0 q1 ⊢
          have HW3 := HW
          have HX3 := HX
          have HC3 := HC0
          clear hr0 ha hr hq HO HW HX HC0 HRA hw3
          obtain ⟨A3, c3, rfl, -, -, -, -⟩ := Own.form HO3.out
          rw [HLN.out, show 4 + (a + 1) = q + 1 from by have := HQ.out; omega] at HO3 ⊢
          obtain ⟨g, rfl, hg1, hg2⟩ := OwnV.head0 HO3.out (by rw [vbs_length, HLN.out]; omega)
          obtain ⟨s0, sf, sset⟩ := OwnV.cellset HO3.out (j := q) (by rw [vbs_length, HLN.out]; have := HQ.out; omega)
          have HS1 := Lib.hid (show ((vbs (oword 4 m ++ spBits us (a + 1) j))[q]'(by rw [vbs_length, HLN.out]; have := HQ.out; omega)) = .int .u8 (nb (spBt us j a)) from by
            obtain ⟨e1, e2⟩ := HA.out
            have e3 := HQ.out
            subst e1
            subst e3
            exact by_get _)
          rw [HS1.out] at s0
          have HG3 := Lib.hid hg1
          obtain ⟨q2, q3⟩ := row2 HX3.out
          have hcell := HC3.out
          clear hg1 hg2
          cases u
          · have HO4 := Lib.hid (show Own w3 (w.heap.size + 1) (.slice (some ⟨g, 0, none⟩) (q + 1) c3) (oword 4 m ++ spBits us ((j + 1 + 7) / 8) (j + 1)) from by
              rw [spBits_free HU.out.symm, show (j + 1 + 7) / 8 = a + 1 from by have := HA.out; omega]; exact HO3.out)
            clear s0 sf sset
            go_wp2_with fail
            go_roundw
            case rel => exact ⟨j + 1, by have := HLT.out; omega, by go_num, HO4.out, HW3.out, HX3.out⟩
            case measure => have := HLT.out; simp [intOf]; omega
          · have HO4 := Lib.hid (show Own (w3.setCell ⟨g, q, none⟩ (.int .u8 (nb (spBt us j a ||| ((1#8 : BitVec 8) <<< r))))) (w.heap.size + 1) (.slice (some ⟨g, 0, none⟩) (q + 1) c3) (oword 4 m ++ spBits us ((j + 1 + 7) / 8) (j + 1)) from by
              rw [show (j + 1 + 7) / 8 = a + 1 from by have := HA.out; omega]
              have h1 := sset (.int .u8 (nb (spBt us j a ||| ((1#8 : BitVec 8) <<< r))))
              have h2 := by_set (us := us) (m := m) (j := j) HU.out.symm
              obtain ⟨e1, e2⟩ := HA.out
              rw [← e1, ← e2, ← HQ.out] at h2
              unfold Own
              rw [← h2]
              exact h1)
            have HW4 := Lib.hid (HW3.out.set (p := ⟨g, q, none⟩) (by have := HG3.out; simp; omega) (.int .u8 (nb (spBt us j a ||| ((1#8 : BitVec 8) <<< r)))))
            have HX4 := Lib.hid (((show TS [g] w3 (w3.setCell ⟨g, q, none⟩ (.int .u8 (nb (spBt us j a ||| ((1#8 : BitVec 8) <<< r))))) from TS.tb (TB.set w3 q _) (by simp)).block w.heap.size (Array.getElem?_eq_some_iff.1 HX3.out).1 (by have := HG3.out; simp; omega)).trans HX3.out)
            have hsh := HSH.out
            have had := HAD.out
            clear sset
            go_wp2_with fail
            go_roundw
            case rel => exact ⟨j + 1, by have := HLT.out; omega, by go_num, HO4.out, HW4.out, HX4.out⟩
            case measure => have := HLT.out; simp [intOf]; omega
      · obtain rfl : j = us.length := by omega
        have hjP : ¬ (us.length : Int) < P := by rw [HPU.out]; omega
        go_wp2_with fail
        go_ret2
        obtain ⟨A4, c4, rfl, h1, h2, h3, -⟩ := Own.form HO.out
        have hE : spBytes P us = oword 4 m ++ spBits us ((us.length + 7) / 8) us.length := by unfold spBytes; rw [HM.out]
        rw [HRR.out]
        unfold SpBy
        rw [hE]
        exact ⟨A4, c4, rfl, h3, h1, h2, HW.out⟩
  · rw [if_neg hok] at hR
    subst hR
    rw [show spChk P us = 2 from by unfold spChk; rw [if_neg hok]] at HCK
    clear hok
    go_enter Try.func41, Try.ntmps41
    go_wp2_with fail
    rw [← hW1]
    clear hW1
    refine HCK.out.mono ?_
    rintro e w1 ⟨rfl, hb⟩
    have HF1 := Lib.hid (HF.out.trans hb)
    clear hb
    go_wp2
    go_ret2
    exact ⟨none, 0, rfl, Rd.nil _ _, by simp, by simp [maxLen], HF1.out⟩
end Go.Proofs.Ytjhgnohofcahbaa
