/- The walk of RecordBack. -/
import Derived.Test.YtjhgnohofcahbaaRecordFitsW
import Derived.Test.YtjhgnohofcahbaaRowR
set_option linter.unusedVariables false
set_option linter.unusedSimpArgs false
namespace Go.Proofs.Ytjhgnohofcahbaa
open Go.ChangeShapes Go.WideShapes Go.ChangeAt Go.RowKit
attribute [local go_sem] nb_nonneg nb_lt64 nb_lt8

set_option maxRecDepth 100000 in
set_option maxHeartbeats 1000000 in
theorem kit_Record_same (ks vs : List Byte) (o s : Int) (A B A' B' : Option Addr) (c d c' d' : Nat) (w : World) (h1 : Rd w A ks) (h2 : Rd w B vs) (h3 : Rd w A' ks) (h4 : Rd w B' vs) :
    Calls Try.prog 17 #[.agg #[.slice A ks.length c, .int .i64 o, .int .i64 s, .slice B vs.length d], .agg #[.slice A' ks.length c', .int .i64 o, .int .i64 s, .slice B' vs.length d']] w fun e w' => e = .returned (.bool true) ∧ FB w w' := by
  have hs1 := fun p q => run_string c ((h1.alloc p).alloc q)
  have hs2 := fun p q => run_string d ((h2.alloc p).alloc q)
  have hs3 := fun p q => run_string c' ((h3.alloc p).alloc q)
  have hs4 := fun p q => run_string d' ((h4.alloc p).alloc q)
  clear h1 h2 h3 h4
  go_enter Try.func17, Try.ntmps17
  go_wp2
  go_ret
  exact ⟨rfl, ((FB.refl w).alloc _).alloc _⟩
set_option maxRecDepth 100000 in
set_option maxHeartbeats 8000000 in
theorem recordBack_few (A0 : Option Addr) (c0 : Nat) (ks : List Byte) (o s : Int) (B0 : Option Addr) (d0 : Nat) (vs : List Byte) (A1 : Option Addr) (c1 : Nat) (b : List Byte) (A2 : Option Addr) (c2 : Nat) (key : List Byte) (A3 : Option Addr) (c3 : Nat) (value : List Byte) (over : Int) (w : World)
    (l0 : ks.length ≤ 5000) (l0v : vs.length ≤ 5000) (l1 : b.length ≤ 5000) (l2 : key.length ≤ 5000) (l3 : value.length ≤ 5000)
    (hk0 : Rd w A0 ks) (hv0 : Rd w B0 vs) (hc1 : b.length ≤ c1) (hr1 : Rd w A1 b) (hr2 : Rd w A2 key) (hr3 : Rd w A3 value) :
    Calls Try.prog 3 #[.agg #[.slice A0 ks.length c0, .int .i64 o, .int .i64 s, .slice B0 vs.length d0], .slice A1 b.length c1, .slice A2 key.length c2, .slice A3 value.length c3, .int .i64 over] w fun e w' => e = .returned (.bool true) ∧ Below w.heap.size w w' := by
  have HK0 := Lib.hid hk0
  have HV0 := Lib.hid hv0
  have HR1 := Lib.hid hr1
  have HR2 := Lib.hid hr2
  have HR3 := Lib.hid hr3
  have HFT0 := fun W (k0 : Rd W A2 key) (k1 : Rd W A3 value) => rec_Fits key value A2 A3 _ c2 _ c3 W rfl rfl k0 k1
  have hpo : ∃ po : Nat, pick over 65536 = (po : Int) ∧ po < 65536 := by
    refine ⟨(pick over 65536).toNat, ?_, ?_⟩
    all_goals
      rw [show pick over 65536 = over % 65536 from by unfold pick; rw [if_neg (by omega)]]
      omega
  obtain ⟨po, hpo1, hpo2⟩ := hpo
  have HP2 := Lib.hid (fun W => show Calls Try.prog 19 #[.int .i64 over, .int .i64 65536] W fun e w' => e = .returned (.int .i64 (po : Int)) ∧ W = w' from by rw [← hpo1]; exact kit_Pick over _ W (by omega) (by omega))
  have hM0 : ∃ (fit : Bool) (OV : Int) (vo : List Byte), recFits key value = fit ∧ 0 ≤ OV ∧ OV ≤ 65536 ∧ (if OV = 0 then value else []) = vo ∧ ((OV == 0) = fit) ∧ (((key.length < 1 ∨ (1 ≤ key.length ∧ 512 < key.length)) ∧ fit = false) ∨ (1 ≤ key.length ∧ key.length ≤ 512 ∧ fit = true ∧ OV = 0 ∧ vo = value) ∨ (1 ≤ key.length ∧ key.length ≤ 512 ∧ fit = false ∧ OV = 1 + (po : Int) ∧ vo = [])) := by
    by_cases hk : 1 ≤ key.length ∧ key.length ≤ 512
    · cases hf : recFits key value with
      | true => exact ⟨true, 0, value, rfl, by omega, by omega, if_pos rfl, rfl, .inr (.inl ⟨hk.1, hk.2, rfl, rfl, rfl⟩)⟩
      | false => exact ⟨false, 1 + (po : Int), [], rfl, by omega, by omega, if_neg (by omega), by simp; omega, .inr (.inr ⟨hk.1, hk.2, rfl, rfl, rfl⟩)⟩
    · have hf : recFits key value = false := by unfold recFits; rw [decide_eq_false hk]; rfl
      exact ⟨false, 1 + (po : Int), [], hf, by omega, by omega, if_neg (by omega), by simp; omega, .inl ⟨by omega, rfl⟩⟩
  obtain ⟨fit, OV, vo, hfit, hov0, hov1, hvo, hovf, hM⟩ := hM0
  have HRLEN0 : recFits key value = true → (recRaw key 0#64 (BitVec.ofNat 64 value.length) value).length ≤ 1024 := fun h => by
    unfold recFits at h
    simp only [Bool.and_eq_true, decide_eq_true_eq] at h
    exact h.2
  rw [hfit] at HFT0 HRLEN0
  have HFT := Lib.hid HFT0
  have HM := Lib.hid hM
  have HMB := Lib.hid (fun (hk : key.length < 1 ∨ (1 ≤ key.length ∧ 512 < key.length)) W (k0 : Rd W A2 key) (k1 : Rd W A3 value) => rec_Make_bad key value (1 + (po : Int)) A2 A3 _ c2 _ c3 W rfl rfl k0 k1 (fun hok => by have := hok.1; omega))
  have HMK := Lib.hid (fun (h1 : 1 ≤ key.length) (h2 : key.length ≤ 512) W (k0 : Rd W A2 key) (k1 : Rd W A3 value) => show Calls Try.prog 20 #[.slice A2 key.length c2, .slice A3 value.length c3, .int .i64 OV] W (RecRes key vo OV value.length W) from by
    have q := rec_Make_ok key value OV A2 A3 _ c2 _ c3 W rfl rfl k0 k1 ⟨⟨h1, h2⟩, by omega, by omega, by omega, by rw [hovf, hfit]⟩
    rw [hvo] at q; exact q)
  have hovn : nb (BitVec.ofNat 64 OV.toNat) = OV := by rw [len64 _ (by omega)]; omega
  have hvn : nb (BitVec.ofNat 64 value.length) = (value.length : Int) := len64 _ (by omega)
  have HBY := Lib.hid (fun (h1 : 1 ≤ key.length) (h2 : key.length ≤ 512) (A : Option Addr) (c : Nat) (B : Option Addr) (d : Nat) W (k0 : Rd W A key) (k1 : Rd W B vo) => show Calls Try.prog 15 #[.agg #[.slice A key.length c, .int .i64 OV, .int .i64 (value.length : Int), .slice B vo.length d]] W _ from rec_Bytes_ok A _ c (BitVec.ofNat 64 OV.toNat) (BitVec.ofNat 64 value.length) OV (value.length : Int) B _ d key vo W rfl rfl hovn.symm hvn.symm k0 k1 (by
    unfold rcheck
    rw [if_neg (by omega)]
    by_cases h0 : OV = 0
    · rw [if_pos h0] at hvo ⊢; rw [← hvo, if_pos rfl]
    · rw [if_neg h0] at hvo ⊢; rw [← hvo]; rfl))
  have hrawl := raw_len key vo (BitVec.ofNat 64 OV.toNat) (BitVec.ofNat 64 value.length)
  have ho1 := onum_len10 (BitVec.ofNat 64 key.length)
  have ho2 := onum_len10 (BitVec.ofNat 64 OV.toNat)
  have ho3 := onum_len10 (BitVec.ofNat 64 value.length)
  have HRLEN := Lib.hid (show fit = true → (recRaw key (BitVec.ofNat 64 OV.toNat) (BitVec.ofNat 64 value.length) vo).length ≤ 1024 from fun h => by
    have h0 : OV = 0 := by rw [h] at hovf; simpa using hovf
    rw [if_pos h0] at hvo
    rw [h0, ← hvo]; exact HRLEN0 h)
  have HRLEN2 := Lib.hid (show key.length ≤ 512 → vo = [] → (recRaw key (BitVec.ofNat 64 OV.toNat) (BitVec.ofNat 64 value.length) vo).length ≤ 600 from fun h h' => by
    rw [hrawl, h', List.length_nil]; omega)
  generalize recRaw key (BitVec.ofNat 64 OV.toNat) (BitVec.ofNat 64 value.length) vo = raw2 at *
  clear hrawl ho1 ho2 ho3 hovn hvn HRLEN0 hM hovf hvo hfit HFT0 hpo1 hov0 hov1
  -- the record that came in
  have HRC := Lib.hid (show (rcheck ks.length o s vs.length = 0 ∧ recMay ks vs (BitVec.ofNat 64 o.toNat) (BitVec.ofNat 64 s.toNat)) ∨ rcheck ks.length o s vs.length = 2 from by
    rcases rcheck_cases ks.length o s vs.length with h | h
    · refine .inl ⟨h, ?_⟩
      unfold recMay
      have hb := h
      unfold rcheck at hb
      split at hb
      · cases hb
      · rw [len64 _ (by omega), len64 _ (by omega), show ((o.toNat : Nat) : Int) = o by omega, show ((s.toNat : Nat) : Int) = s by omega]; exact h
    · exact .inr h)
  have hnn : rcheck ks.length o s vs.length = 0 → nb (BitVec.ofNat 64 o.toNat) = o ∧ nb (BitVec.ofNat 64 s.toNat) = s := fun h => by
    unfold rcheck at h
    split at h
    · cases h
    · rw [len64 _ (by omega), len64 _ (by omega)]; omega
  have HBR := Lib.hid (fun (h : rcheck ks.length o s vs.length = 0) (_ : recMay ks vs (BitVec.ofNat 64 o.toNat) (BitVec.ofNat 64 s.toNat)) W (k0 : Rd W A0 ks) (k1 : Rd W B0 vs) => show Calls Try.prog 15 #[.agg #[.slice A0 ks.length c0, .int .i64 o, .int .i64 s, .slice B0 vs.length d0]] W _ from rec_Bytes_ok A0 _ c0 (BitVec.ofNat 64 o.toNat) (BitVec.ofNat 64 s.toNat) o s B0 _ d0 ks vs W rfl rfl (hnn h).1.symm (hnn h).2.symm k0 k1 h)
  have HBB := Lib.hid (fun (h : rcheck ks.length o s vs.length = 2) W => show Calls Try.prog 15 #[.agg #[.slice A0 ks.length c0, .int .i64 o, .int .i64 s, .slice B0 vs.length d0]] W _ from rec_Bytes_bad A0 _ c0 o s B0 _ d0 W (by rw [h]; decide))
  have HCKr := Lib.hid (fun W => rec_CheckN ks vs o s _ rfl A0 B0 c0 d0 W)
  have HRDR := Lib.hid (fun (h : rcheck ks.length o s vs.length = 0) (hm : recMay ks vs (BitVec.ofNat 64 o.toNat) (BitVec.ofNat 64 s.toNat)) (A : Option Addr) (n c : Nat) W (hn : n = (recRaw ks (BitVec.ofNat 64 o.toNat) (BitVec.ofNat 64 s.toNat) vs).length) (k0 : Rd W A (recRaw ks (BitVec.ofNat 64 o.toNat) (BitVec.ofNat 64 s.toNat) vs)) => show Calls Try.prog 13 #[.slice A n c] W (RecRes ks vs o s W) from by
    have q := rec_Read_raw hm A n c W hn k0 (by omega)
    rw [(hnn h).1, (hnn h).2] at q; exact q)
  have HMORE := Lib.hid (fun (hm : recMay ks vs (BitVec.ofNat 64 o.toNat) (BitVec.ofNat 64 s.toNat)) => raw_more hm [0#8] (by simp))
  have HCUT := Lib.hid (fun (hm : recMay ks vs (BitVec.ofNat 64 o.toNat) (BitVec.ofNat 64 s.toNat)) ys y => raw_cut (ys := ys) (y := y) hm)
  have HLR := Lib.hid (recRaw_len ks (BitVec.ofNat 64 o.toNat) (BitVec.ofNat 64 s.toNat) vs)
  have hpos : 1 ≤ (recRaw ks (BitVec.ofNat 64 o.toNat) (BitVec.ofNat 64 s.toNat) vs).length := by
    rw [raw_len]; have := onum_len_pos (BitVec.ofNat 64 ks.length); omega
  obtain ⟨ys, y, hys⟩ : ∃ ys y, recRaw ks (BitVec.ofNat 64 o.toNat) (BitVec.ofNat 64 s.toNat) vs = ys ++ [y] := ⟨_, _, (List.dropLast_concat_getLast (List.ne_nil_of_length_pos hpos)).symm⟩
  have HYS := Lib.hid hys
  generalize recMay ks vs (BitVec.ofNat 64 o.toNat) (BitVec.ofNat 64 s.toNat) = may at *
  generalize recRaw ks (BitVec.ofNat 64 o.toNat) (BitVec.ofNat 64 s.toNat) vs = raw at *
  generalize rcheck ks.length o s vs.length = rc at *
  have HOKB := Lib.hid (fun (h : rdOk b) => rdOk_raw h)
  clear hnn hpos hys hk0 hv0 hr1 hr2 hr3
  go_enter Try.func3, Try.ntmps3
  go_wp2_with fail
  refine (rec_lives _).mono ?_
  rintro e w1 ⟨rfl, hf⟩
  have HBX1 := Lib.hid hf
  have HF1 := Lib.hid (((FB.refl w).alloc (.cells #[.slice A0 ks.length c0, .int .i64 o, .int .i64 s, .slice B0 vs.length d0] 24)).trans hf)
  obtain ⟨q0, q1, q2, q3⟩ := cells4 (box_row HBX1.out)
  clear hf
  go_wp2_with fail
  refine (kit_Own b A1 c1 _ hc1 (by omega) (HF1.out.rd HR1.out)).mono ?_
  rintro e w2 ⟨A4, c4, rfl, ho, hb⟩
  have HO2 := Lib.hid (Own.info ho)
  have HF2 := Lib.hid (HF1.out.call hb)
  have HBX2 := Lib.hid (HBX1.out.call hb)
  clear ho hb q0 q1 q2 q3
  go_wp2_with fail
  refine (rec_Read b A4 _ c4 _ rfl (by omega) HO2.out.2.2.1).mono ?_
  rintro e w3 (⟨hok, A5, c5, B5, d5, rfl, hk5, hv5, hf5, -, -⟩ | ⟨hok, rfl, hf5⟩)
  · unfold recV
    obtain ⟨hmayb, hbraw⟩ := HOKB.out hok
    have HBYb := Lib.hid (fun W (k0 : Rd W A5 (rdK b).1) (k1 : Rd W B5 (rdV b).1) => show Calls Try.prog 15 #[.agg #[.slice A5 (rdK b).1.length c5, .int .i64 (nb (rdO b).1), .int .i64 (nb (rdS b).1), .slice B5 (rdV b).1.length d5]] W fun e w' => ∃ v, e = .returned (.tuple #[v, .int .i64 0]) ∧ Own w' W.heap.size v b ∧ FB W w' from by
      have q := rec_Bytes_ok A5 _ c5 (rdO b).1 (rdS b).1 _ _ B5 _ d5 _ _ W rfl rfl rfl rfl k0 k1 hmayb
      rw [← hbraw] at q; exact q)
    clear hmayb hbraw hok HOKB
    generalize (rdK b).1 = kb at *
    generalize nb (rdO b).1 = ob at *
    generalize nb (rdS b).1 = sbb at *
    generalize (rdV b).1 = vb1 at *
    have HF3 := Lib.hid (HF2.out.trans hf5)
    have HBX3 := Lib.hid (HBX2.out.trans hf5)
    have HG3 := Lib.hid (show w.heap.size + 1 ≤ w3.heap.size from by have := HBX3.out.le; simp at this; omega)
    have HK5 := Lib.hid hk5
    have HV5 := Lib.hid hv5
    clear hf5 HO2 hk5 hv5
    go_wp2_with fail
    refine (HBYb.out _ (HK5.out.alloc _) (HV5.out.alloc _)).mono ?_
    rintro e w6 ⟨v6, rfl, ho, hf⟩
    obtain ⟨A6, c6, rfl, -, -, hr6, -⟩ := Own.form ho
    have HFz := Lib.hid ((HF3.out.alloc _).trans hf)
    have HBXz := Lib.hid ((HBX3.out.alloc _).trans hf)
    have HROWz := Lib.hid (box_row (cs := #[.slice A5 kb.length c5, .int .i64 ob, .int .i64 sbb, .slice B5 vb1.length d5]) (t := 24) hf)
    have hs6 := run_string c6 hr6
    have hs1 := run_string c1 (HFz.out.rd HR1.out)
    clear ho hf hr6
    obtain ⟨q0, q1, q2, q3⟩ := cells4 (box_row HBXz.out)
    rcases HRC.out with ⟨hrc, hmay⟩ | hrc
    · have HBYr := Lib.hid (HBR.out hrc hmay)
      have HRDx := Lib.hid (HRDR.out hrc hmay)
      have HMRx := Lib.hid (HMORE.out hmay)
      have HCTx := Lib.hid (HCUT.out hmay ys y HYS.out)
      subst hrc
      clear hmay
      go_wp2_with fail
      refine (HBYr.out _ (HFz.out.rd HK0.out) (HFz.out.rd HV0.out)).mono ?_
      rintro e wa ⟨va, rfl, ho, hf⟩
      obtain ⟨A7, c7, rfl, h7a, h7b, hr7, h7c⟩ := Own.form ho
      have HFa := Lib.hid (HFz.out.trans hf)
      have HBXa := Lib.hid (HBXz.out.trans hf)
      have HROWa := Lib.hid ((hf.block w3.heap.size (Array.getElem?_eq_some_iff.1 HROWz.out).1).trans HROWz.out)
      have HR7 := Lib.hid hr7
      have HC7 := Lib.hid (And.intro h7a h7b)
      have HN7 := Lib.hid (show ∀ ad, A7 = some ad → ad.block ≠ w3.heap.size from fun ad ha => by have := h7c ad ha; have := (Array.getElem?_eq_some_iff.1 HROWz.out).1; omega)
      clear ho hf hr7 h7a h7b h7c q0 q1 q2 q3
      obtain ⟨q0, q1, q2, q3⟩ := cells4 (box_row HBXa.out)
      go_wp2_with fail
      refine (HCKr.out _).mono ?_
      rintro e wb ⟨rfl, hf⟩
      have HFb := Lib.hid (HFa.out.trans hf)
      have HBXb := Lib.hid (HBXa.out.trans hf)
      have HROWb := Lib.hid ((hf.block w3.heap.size (Array.getElem?_eq_some_iff.1 HROWa.out).1).trans HROWa.out)
      have HR7b := Lib.hid (hf.rd HR7.out)
      clear hf q0 q1 q2 q3
      go_wp2_with fail
      refine (HRDx.out A7 _ c7 _ rfl HR7b.out).mono ?_
      rintro e wc ⟨A8, c8, B8, d8, rfl, hk8, hv8, hf, -, -, hb8⟩
      unfold recV
      have HBXc := Lib.hid (HBXb.out.trans hf)
      have HFc := Lib.hid (HFb.out.trans hf)
      have HROWc := (hf.block w3.heap.size (Array.getElem?_eq_some_iff.1 HROWb.out).1).trans HROWb.out
      have hst := store_rec (.slice A8 ks.length c8) (.int .i64 o) (.int .i64 s) (.slice B8 vs.length d8) HROWc (by simp [Value.oneCell'])
      have hlt3 := (Array.getElem?_eq_some_iff.1 HROWb.out).1
      have HROWd := Lib.hid (setRow_heap wc w3.heap.size _ #[.slice A8 ks.length c8, .int .i64 o, .int .i64 s, .slice B8 vs.length d8] _ _ HROWc)
      have HTd := Lib.hid (TB.setRow w3.heap.size wc #[.slice A8 ks.length c8, .int .i64 o, .int .i64 s, .slice B8 vs.length d8])
      have HK8 := Lib.hid (TB.rd HTd.out hk8 (fun ad ha => by have := hb8 ad (.inl ha); omega))
      have HV8 := Lib.hid (TB.rd HTd.out hv8 (fun ad ha => by have := hb8 ad (.inr ha); omega))
      have HR7d := Lib.hid (TB.rd HTd.out (hf.rd HR7b.out) HN7.out)
      have HBXd := Lib.hid (HBXc.out.tb HTd.out (by have := HG3.out; simp; omega))
      have HFd := Lib.hid (HFc.out.tb HTd.out (by have := HG3.out; omega))
      have hcut := cut_hi A7 c7 raw ys.length (by rw [HYS.out]; simp) HC7.out.1
      have HLEN := Lib.hid (show raw.length = ys.length + 1 from by rw [HYS.out]; simp)
      have hsub : IntKind.i64.wrap ((raw.length : Int) - 1) = (ys.length : Int) := by rw [IntKind.wrap_i64]; have := HLR.out; have := HLEN.out; omega
      have hlb : raw.length ≤ 11000 := by have := HLR.out; omega
      clear hf hk8 hv8 hb8 hlt3 HROWc
      go_wp2_with (refine wpList_store_by rfl _ _ _ rfl _ hst ?_)
      generalize wc.setRow w3.heap.size #[.slice A8 ks.length c8, .int .i64 o, .int .i64 s, .slice B8 vs.length d8] = wd at *
      clear hst HTd hcut hsub
      refine (rec_Read_not HCTx.out A7 _ c7 _ rfl (by have := HLEN.out; omega) (by have q := HR7d.out.take ys.length; rw [HYS.out, List.take_left] at q; exact q)).mono ?_
      rintro e we ⟨rfl, hf⟩
      unfold rec0 recV
      have HFe := Lib.hid (HFd.out.trans hf)
      have HBXe := Lib.hid (HBXd.out.trans hf)
      have HWe := Lib.hid (show FB wd we from hf)
      clear hf
      go_wp2_with fail
      refine (kit_Own raw A7 c7 _ HC7.out.1 (by omega) ((HWe.out.rd HR7d.out).alloc _)).mono ?_
      rintro e wg ⟨A9, c9, rfl, ho, hb⟩
      have HO9 := Lib.hid ho
      have HWg := Lib.hid ((HWe.out.alloc (.cells #[.slice none 0 0, .int .i64 0, .int .i64 0, .slice none 0 0] 24)).call hb)
      have HLE9 := Lib.hid (show (we.alloc (.cells #[.slice none 0 0, .int .i64 0, .int .i64 0, .slice none 0 0] 24)).heap.size ≤ wg.heap.size from Below.size hb)
      clear ho hb
      go_wp2_with (at_builtin; refine wpList_append_bytes rfl _ _ rfl (we.alloc (.cells #[.slice none 0 0, .int .i64 0, .int .i64 0, .slice none 0 0] 24)).heap.size (.slice A9 raw.length c9) raw (HO9.out.alloc _) rfl (some ⟨wg.heap.size, 0, none⟩) 1 [0#8] rfl (RdV.lit (g := wg.heap.size) _ (vbs [0#8]) _ (by simp)) (by simp; omega) (by have := HLE9.out; simp at *; omega) ?_; intro v' wh ho hg _; have HO10 := Lib.hid ho; have HG10 := Lib.hid hg; clear ho hg)
      obtain ⟨Ah, ch, hvh, -, -, hrh, -⟩ := Own.form HO10.out
      subst hvh
      have HWh := Lib.hid ((HWg.out.alloc _).grown HG10.out (fun k hk => Nat.le_trans (by have := HWe.out.le; simp; omega) (Own.bnd (HO9.out.alloc (.cells #[.int .u8 0] 5)) k hk)))
      have hl1 : (raw ++ [0#8]).length = raw.length + 1 := by simp
      have HL1 := Lib.hid hl1
      have HRh := Lib.hid hrh
      rw [hl1]
      clear hl1 hrh HO9 HO10 HG10 HLE9
      refine (rec_Read_not HMRx.out Ah _ ch _ HL1.out.symm (by rw [HL1.out]; omega) HRh.out).mono ?_
      rintro e wi ⟨rfl, hf⟩
      unfold rec0 recV
      have HWi := Lib.hid (HWh.out.trans hf)
      have HWj := Lib.hid (HWi.out.alloc (.cells #[.slice none 0 0, .int .i64 0, .int .i64 0, .slice none 0 0] 24))
      have HBXj := Lib.hid (HBXd.out.trans HWj.out)
      obtain ⟨q0, q1, q2, q3⟩ := cells4 (box_row HBXj.out)
      obtain ⟨p0, p1, p2, p3⟩ := cells4 ((HWj.out.block w3.heap.size (Array.getElem?_eq_some_iff.1 HROWd.out).1).trans HROWd.out)
      have HFj := Lib.hid (HFd.out.trans HWj.out)
      clear hf
      go_wp2_with fail
      refine (kit_Record_same ks vs o s A8 B8 A0 B0 c8 d8 c0 d0 _ (HWj.out.rd HK8.out) (HWj.out.rd HV8.out) (HFj.out.rd HK0.out) (HFj.out.rd HV0.out)).mono ?_
      rintro e wk ⟨rfl, hf⟩
      have HFm := Lib.hid (HFj.out.trans hf)
      clear hf q0 q1 q2 q3 p0 p1 p2 p3
      go_wp2_with fail
      refine (HFT.out _ (HFm.out.rd HR2.out) (HFm.out.rd HR3.out)).mono ?_
      rintro e wn ⟨rfl, hf⟩
      have HFn := Lib.hid (HFm.out.trans hf)
      clear hf
      go_wp2_with fail
      refine (HP2.out _).mono ?_
      rintro e wo ⟨rfl, rfl⟩
      rcases HM.out with ⟨hkb, hfit⟩ | ⟨hk1, hk2, hfit, hov, hvo⟩ | ⟨hk1, hk2, hfit, hov, hvo⟩
      · have HMBx := Lib.hid (HMB.out hkb)
        subst hfit
        rcases hkb with hkb | ⟨hkb, hkc⟩
        all_goals
          go_wp2_with fail
          refine (HMBx.out _ (HFn.out.rd HR2.out) (HFn.out.rd HR3.out)).mono ?_
          rintro e wp ⟨rfl, hf⟩
          have HFp := Lib.hid (HFn.out.trans hf)
          clear hf
          unfold rec0 recV
          go_wp2
          go_ret
          exact ⟨rfl, HFp.out.alloc _⟩
      · have HMKx := Lib.hid (HMK.out hk1 hk2)
        have HBYx := Lib.hid (HBY.out hk1 hk2)
        have hrlen := HRLEN.out hfit
        replace hvo := hvo.symm
        subst hfit hov hvo
        go_wp2_with fail
        refine (HMKx.out _ (HFn.out.rd HR2.out) (HFn.out.rd HR3.out)).mono ?_
        rintro e wp ⟨A5, c5, B5, d5, rfl, hk5, hv5, hf5, -, -⟩
        unfold recV
        have HFp := Lib.hid (HFn.out.trans hf5)
        have HK5 := Lib.hid hk5
        have HV5 := Lib.hid hv5
        clear hk5 hv5 hf5
        go_wp2_with fail
        refine (HBYx.out _ _ _ _ _ (HK5.out.alloc _) (HV5.out.alloc _)).mono ?_
        rintro e wq ⟨v6, rfl, ho, hf⟩
        obtain ⟨A6, c6, rfl, -, -, hr6, -⟩ := Own.form ho
        have HFq := Lib.hid ((HFp.out.alloc _).trans hf)
        have HBq := Lib.hid (show FB (wp.alloc (.cells #[.slice A5 key.length c5, .int .i64 0, .int .i64 value.length, .slice B5 value.length d5] 24)) wq from hf)
        obtain ⟨q0, q1, q2, q3⟩ := cells4 (box_row HBq.out)
        have hs5 := run_string c5 (HBq.out.rd (HK5.out.alloc _))
        have hs6 := run_string d5 (HBq.out.rd (HV5.out.alloc _))
        have hs2 := run_string c2 (HFq.out.rd HR2.out)
        have hs3 := run_string c3 (HFq.out.rd HR3.out)
        clear ho hf hr6
        go_wp2
        go_ret
        exact ⟨rfl, HFq.out⟩
      · have HMKx := Lib.hid (HMK.out hk1 hk2)
        have HBYx := Lib.hid (HBY.out hk1 hk2)
        have hrlen := HRLEN2.out hk2 hvo
        subst hfit hov hvo
        go_wp2_with fail
        refine (HMKx.out _ (HFn.out.rd HR2.out) (HFn.out.rd HR3.out)).mono ?_
        rintro e wp ⟨A5, c5, B5, d5, rfl, hk5, hv5, hf5, -, -⟩
        unfold recV
        have HFp := Lib.hid (HFn.out.trans hf5)
        have HK5 := Lib.hid hk5
        have HV5 := Lib.hid hv5
        clear hk5 hv5 hf5
        rw [List.length_nil]
        go_wp2_with fail
        refine (HBYx.out _ _ _ _ _ (HK5.out.alloc _) (HV5.out.alloc _)).mono ?_
        rintro e wq ⟨v6, rfl, ho, hf⟩
        obtain ⟨A6, c6, rfl, -, -, hr6, -⟩ := Own.form ho
        have HFq := Lib.hid ((HFp.out.alloc _).trans hf)
        have HBq := Lib.hid (show FB (wp.alloc (.cells #[.slice A5 key.length c5, .int .i64 (1 + (po : Int)), .int .i64 value.length, .slice B5 0 d5] 24)) wq from hf)
        obtain ⟨q0, q1, q2, q3⟩ := cells4 (box_row HBq.out)
        have hs5 := run_string c5 (HBq.out.rd (HK5.out.alloc _))
        have hs2 := run_string c2 (HFq.out.rd HR2.out)
        clear ho hf hr6
        go_wp2
        go_ret
        exact ⟨rfl, HFq.out⟩
    · have HBBx := Lib.hid (HBB.out hrc)
      subst hrc
      go_wp2_with fail
      refine (HBBx.out _).mono ?_
      rintro e wa ⟨rfl, hf⟩
      have HFa := Lib.hid (HFz.out.trans hf)
      have HBXa := Lib.hid (HBXz.out.trans hf)
      clear hf q0 q1 q2 q3
      obtain ⟨q0, q1, q2, q3⟩ := cells4 (box_row HBXa.out)
      go_wp2_with fail
      refine (HCKr.out _).mono ?_
      rintro e wb ⟨rfl, hf⟩
      have HFm := Lib.hid (HFa.out.trans hf)
      clear hf q0 q1 q2 q3
      go_wp2_with fail
      refine (HFT.out _ (HFm.out.rd HR2.out) (HFm.out.rd HR3.out)).mono ?_
      rintro e wn ⟨rfl, hf⟩
      have HFn := Lib.hid (HFm.out.trans hf)
      clear hf
      go_wp2_with fail
      refine (HP2.out _).mono ?_
      rintro e wo ⟨rfl, rfl⟩
      rcases HM.out with ⟨hkb, hfit⟩ | ⟨hk1, hk2, hfit, hov, hvo⟩ | ⟨hk1, hk2, hfit, hov, hvo⟩
      · have HMBx := Lib.hid (HMB.out hkb)
        subst hfit
        rcases hkb with hkb | ⟨hkb, hkc⟩
        all_goals
          go_wp2_with fail
          refine (HMBx.out _ (HFn.out.rd HR2.out) (HFn.out.rd HR3.out)).mono ?_
          rintro e wp ⟨rfl, hf⟩
          have HFp := Lib.hid (HFn.out.trans hf)
          clear hf
          unfold rec0 recV
          go_wp2
          go_ret
          exact ⟨rfl, HFp.out.alloc _⟩
      · have HMKx := Lib.hid (HMK.out hk1 hk2)
        have HBYx := Lib.hid (HBY.out hk1 hk2)
        have hrlen := HRLEN.out hfit
        replace hvo := hvo.symm
        subst hfit hov hvo
        go_wp2_with fail
        refine (HMKx.out _ (HFn.out.rd HR2.out) (HFn.out.rd HR3.out)).mono ?_
        rintro e wp ⟨A5, c5, B5, d5, rfl, hk5, hv5, hf5, -, -⟩
        unfold recV
        have HFp := Lib.hid (HFn.out.trans hf5)
        have HK5 := Lib.hid hk5
        have HV5 := Lib.hid hv5
        clear hk5 hv5 hf5
        go_wp2_with fail
        refine (HBYx.out _ _ _ _ _ (HK5.out.alloc _) (HV5.out.alloc _)).mono ?_
        rintro e wq ⟨v6, rfl, ho, hf⟩
        obtain ⟨A6, c6, rfl, -, -, hr6, -⟩ := Own.form ho
        have HFq := Lib.hid ((HFp.out.alloc _).trans hf)
        have HBq := Lib.hid (show FB (wp.alloc (.cells #[.slice A5 key.length c5, .int .i64 0, .int .i64 value.length, .slice B5 value.length d5] 24)) wq from hf)
        obtain ⟨q0, q1, q2, q3⟩ := cells4 (box_row HBq.out)
        have hs5 := run_string c5 (HBq.out.rd (HK5.out.alloc _))
        have hs6 := run_string d5 (HBq.out.rd (HV5.out.alloc _))
        have hs2 := run_string c2 (HFq.out.rd HR2.out)
        have hs3 := run_string c3 (HFq.out.rd HR3.out)
        clear ho hf hr6
        go_wp2
        go_ret
        exact ⟨rfl, HFq.out⟩
      · have HMKx := Lib.hid (HMK.out hk1 hk2)
        have HBYx := Lib.hid (HBY.out hk1 hk2)
        have hrlen := HRLEN2.out hk2 hvo
        subst hfit hov hvo
        go_wp2_with fail
        refine (HMKx.out _ (HFn.out.rd HR2.out) (HFn.out.rd HR3.out)).mono ?_
        rintro e wp ⟨A5, c5, B5, d5, rfl, hk5, hv5, hf5, -, -⟩
        unfold recV
        have HFp := Lib.hid (HFn.out.trans hf5)
        have HK5 := Lib.hid hk5
        have HV5 := Lib.hid hv5
        clear hk5 hv5 hf5
        rw [List.length_nil]
        go_wp2_with fail
        refine (HBYx.out _ _ _ _ _ (HK5.out.alloc _) (HV5.out.alloc _)).mono ?_
        rintro e wq ⟨v6, rfl, ho, hf⟩
        obtain ⟨A6, c6, rfl, -, -, hr6, -⟩ := Own.form ho
        have HFq := Lib.hid ((HFp.out.alloc _).trans hf)
        have HBq := Lib.hid (show FB (wp.alloc (.cells #[.slice A5 key.length c5, .int .i64 (1 + (po : Int)), .int .i64 value.length, .slice B5 0 d5] 24)) wq from hf)
        obtain ⟨q0, q1, q2, q3⟩ := cells4 (box_row HBq.out)
        have hs5 := run_string c5 (HBq.out.rd (HK5.out.alloc _))
        have hs2 := run_string c2 (HFq.out.rd HR2.out)
        clear ho hf hr6
        go_wp2
        go_ret
        exact ⟨rfl, HFq.out⟩
  · unfold rec0 recV
    have HF3 := Lib.hid (HF2.out.trans hf5)
    have HBX3 := Lib.hid (HBX2.out.trans hf5)
    have HG3 := Lib.hid (show w.heap.size + 1 ≤ w3.heap.size from by have := HBX3.out.le; simp at this; omega)
    clear hf5 HO2
    have HFz := Lib.hid (HF3.out.alloc (.cells #[.slice none 0 0, .int .i64 0, .int .i64 0, .slice none 0 0] 24))
    have HBXz := Lib.hid (HBX3.out.alloc (.cells #[.slice none 0 0, .int .i64 0, .int .i64 0, .slice none 0 0] 24))
    have HROWz := Lib.hid (heap_alloc_new w3 (.cells #[.slice none 0 0, .int .i64 0, .int .i64 0, .slice none 0 0] 24))
    obtain ⟨q0, q1, q2, q3⟩ := cells4 (box_row HBXz.out)
    rcases HRC.out with ⟨hrc, hmay⟩ | hrc
    · have HBYr := Lib.hid (HBR.out hrc hmay)
      have HRDx := Lib.hid (HRDR.out hrc hmay)
      have HMRx := Lib.hid (HMORE.out hmay)
      have HCTx := Lib.hid (HCUT.out hmay ys y HYS.out)
      subst hrc
      clear hmay
      go_wp2_with fail
      refine (HBYr.out _ (HFz.out.rd HK0.out) (HFz.out.rd HV0.out)).mono ?_
      rintro e wa ⟨va, rfl, ho, hf⟩
      obtain ⟨A7, c7, rfl, h7a, h7b, hr7, h7c⟩ := Own.form ho
      have HFa := Lib.hid (HFz.out.trans hf)
      have HBXa := Lib.hid (HBXz.out.trans hf)
      have HROWa := Lib.hid ((hf.block w3.heap.size (Array.getElem?_eq_some_iff.1 HROWz.out).1).trans HROWz.out)
      have HR7 := Lib.hid hr7
      have HC7 := Lib.hid (And.intro h7a h7b)
      have HN7 := Lib.hid (show ∀ ad, A7 = some ad → ad.block ≠ w3.heap.size from fun ad ha => by have := h7c ad ha; have := (Array.getElem?_eq_some_iff.1 HROWz.out).1; omega)
      clear ho hf hr7 h7a h7b h7c q0 q1 q2 q3
      obtain ⟨q0, q1, q2, q3⟩ := cells4 (box_row HBXa.out)
      go_wp2_with fail
      refine (HCKr.out _).mono ?_
      rintro e wb ⟨rfl, hf⟩
      have HFb := Lib.hid (HFa.out.trans hf)
      have HBXb := Lib.hid (HBXa.out.trans hf)
      have HROWb := Lib.hid ((hf.block w3.heap.size (Array.getElem?_eq_some_iff.1 HROWa.out).1).trans HROWa.out)
      have HR7b := Lib.hid (hf.rd HR7.out)
      clear hf q0 q1 q2 q3
      go_wp2_with fail
      refine (HRDx.out A7 _ c7 _ rfl HR7b.out).mono ?_
      rintro e wc ⟨A8, c8, B8, d8, rfl, hk8, hv8, hf, -, -, hb8⟩
      unfold recV
      have HBXc := Lib.hid (HBXb.out.trans hf)
      have HFc := Lib.hid (HFb.out.trans hf)
      have HROWc := (hf.block w3.heap.size (Array.getElem?_eq_some_iff.1 HROWb.out).1).trans HROWb.out
      have hst := store_rec (.slice A8 ks.length c8) (.int .i64 o) (.int .i64 s) (.slice B8 vs.length d8) HROWc (by simp [Value.oneCell'])
      have hlt3 := (Array.getElem?_eq_some_iff.1 HROWb.out).1
      have HROWd := Lib.hid (setRow_heap wc w3.heap.size _ #[.slice A8 ks.length c8, .int .i64 o, .int .i64 s, .slice B8 vs.length d8] _ _ HROWc)
      have HTd := Lib.hid (TB.setRow w3.heap.size wc #[.slice A8 ks.length c8, .int .i64 o, .int .i64 s, .slice B8 vs.length d8])
      have HK8 := Lib.hid (TB.rd HTd.out hk8 (fun ad ha => by have := hb8 ad (.inl ha); omega))
      have HV8 := Lib.hid (TB.rd HTd.out hv8 (fun ad ha => by have := hb8 ad (.inr ha); omega))
      have HR7d := Lib.hid (TB.rd HTd.out (hf.rd HR7b.out) HN7.out)
      have HBXd := Lib.hid (HBXc.out.tb HTd.out (by have := HG3.out; simp; omega))
      have HFd := Lib.hid (HFc.out.tb HTd.out (by have := HG3.out; omega))
      have hcut := cut_hi A7 c7 raw ys.length (by rw [HYS.out]; simp) HC7.out.1
      have HLEN := Lib.hid (show raw.length = ys.length + 1 from by rw [HYS.out]; simp)
      have hsub : IntKind.i64.wrap ((raw.length : Int) - 1) = (ys.length : Int) := by rw [IntKind.wrap_i64]; have := HLR.out; have := HLEN.out; omega
      have hlb : raw.length ≤ 11000 := by have := HLR.out; omega
      clear hf hk8 hv8 hb8 hlt3 HROWc
      go_wp2_with (refine wpList_store_by rfl _ _ _ rfl _ hst ?_)
      generalize wc.setRow w3.heap.size #[.slice A8 ks.length c8, .int .i64 o, .int .i64 s, .slice B8 vs.length d8] = wd at *
      clear hst HTd hcut hsub
      refine (rec_Read_not HCTx.out A7 _ c7 _ rfl (by have := HLEN.out; omega) (by have q := HR7d.out.take ys.length; rw [HYS.out, List.take_left] at q; exact q)).mono ?_
      rintro e we ⟨rfl, hf⟩
      unfold rec0 recV
      have HFe := Lib.hid (HFd.out.trans hf)
      have HBXe := Lib.hid (HBXd.out.trans hf)
      have HWe := Lib.hid (show FB wd we from hf)
      clear hf
      go_wp2_with fail
      refine (kit_Own raw A7 c7 _ HC7.out.1 (by omega) ((HWe.out.rd HR7d.out).alloc _)).mono ?_
      rintro e wg ⟨A9, c9, rfl, ho, hb⟩
      have HO9 := Lib.hid ho
      have HWg := Lib.hid ((HWe.out.alloc (.cells #[.slice none 0 0, .int .i64 0, .int .i64 0, .slice none 0 0] 24)).call hb)
      have HLE9 := Lib.hid (show (we.alloc (.cells #[.slice none 0 0, .int .i64 0, .int .i64 0, .slice none 0 0] 24)).heap.size ≤ wg.heap.size from Below.size hb)
      clear ho hb
      go_wp2_with (at_builtin; refine wpList_append_bytes rfl _ _ rfl (we.alloc (.cells #[.slice none 0 0, .int .i64 0, .int .i64 0, .slice none 0 0] 24)).heap.size (.slice A9 raw.length c9) raw (HO9.out.alloc _) rfl (some ⟨wg.heap.size, 0, none⟩) 1 [0#8] rfl (RdV.lit (g := wg.heap.size) _ (vbs [0#8]) _ (by simp)) (by simp; omega) (by have := HLE9.out; simp at *; omega) ?_; intro v' wh ho hg _; have HO10 := Lib.hid ho; have HG10 := Lib.hid hg; clear ho hg)
      obtain ⟨Ah, ch, hvh, -, -, hrh, -⟩ := Own.form HO10.out
      subst hvh
      have HWh := Lib.hid ((HWg.out.alloc _).grown HG10.out (fun k hk => Nat.le_trans (by have := HWe.out.le; simp; omega) (Own.bnd (HO9.out.alloc (.cells #[.int .u8 0] 5)) k hk)))
      have hl1 : (raw ++ [0#8]).length = raw.length + 1 := by simp
      have HL1 := Lib.hid hl1
      have HRh := Lib.hid hrh
      rw [hl1]
      clear hl1 hrh HO9 HO10 HG10 HLE9
      refine (rec_Read_not HMRx.out Ah _ ch _ HL1.out.symm (by rw [HL1.out]; omega) HRh.out).mono ?_
      rintro e wi ⟨rfl, hf⟩
      unfold rec0 recV
      have HWi := Lib.hid (HWh.out.trans hf)
      have HWj := Lib.hid (HWi.out.alloc (.cells #[.slice none 0 0, .int .i64 0, .int .i64 0, .slice none 0 0] 24))
      have HBXj := Lib.hid (HBXd.out.trans HWj.out)
      obtain ⟨q0, q1, q2, q3⟩ := cells4 (box_row HBXj.out)
      obtain ⟨p0, p1, p2, p3⟩ := cells4 ((HWj.out.block w3.heap.size (Array.getElem?_eq_some_iff.1 HROWd.out).1).trans HROWd.out)
      have HFj := Lib.hid (HFd.out.trans HWj.out)
      clear hf
      go_wp2_with fail
      refine (kit_Record_same ks vs o s A8 B8 A0 B0 c8 d8 c0 d0 _ (HWj.out.rd HK8.out) (HWj.out.rd HV8.out) (HFj.out.rd HK0.out) (HFj.out.rd HV0.out)).mono ?_
      rintro e wk ⟨rfl, hf⟩
      have HFm := Lib.hid (HFj.out.trans hf)
      clear hf q0 q1 q2 q3 p0 p1 p2 p3
      go_wp2_with fail
      refine (HFT.out _ (HFm.out.rd HR2.out) (HFm.out.rd HR3.out)).mono ?_
      rintro e wn ⟨rfl, hf⟩
      have HFn := Lib.hid (HFm.out.trans hf)
      clear hf
      go_wp2_with fail
      refine (HP2.out _).mono ?_
      rintro e wo ⟨rfl, rfl⟩
      rcases HM.out with ⟨hkb, hfit⟩ | ⟨hk1, hk2, hfit, hov, hvo⟩ | ⟨hk1, hk2, hfit, hov, hvo⟩
      · have HMBx := Lib.hid (HMB.out hkb)
        subst hfit
        rcases hkb with hkb | ⟨hkb, hkc⟩
        all_goals
          go_wp2_with fail
          refine (HMBx.out _ (HFn.out.rd HR2.out) (HFn.out.rd HR3.out)).mono ?_
          rintro e wp ⟨rfl, hf⟩
          have HFp := Lib.hid (HFn.out.trans hf)
          clear hf
          unfold rec0 recV
          go_wp2
          go_ret
          exact ⟨rfl, HFp.out.alloc _⟩
      · have HMKx := Lib.hid (HMK.out hk1 hk2)
        have HBYx := Lib.hid (HBY.out hk1 hk2)
        have hrlen := HRLEN.out hfit
        replace hvo := hvo.symm
        subst hfit hov hvo
        go_wp2_with fail
        refine (HMKx.out _ (HFn.out.rd HR2.out) (HFn.out.rd HR3.out)).mono ?_
        rintro e wp ⟨A5, c5, B5, d5, rfl, hk5, hv5, hf5, -, -⟩
        unfold recV
        have HFp := Lib.hid (HFn.out.trans hf5)
        have HK5 := Lib.hid hk5
        have HV5 := Lib.hid hv5
        clear hk5 hv5 hf5
        go_wp2_with fail
        refine (HBYx.out _ _ _ _ _ (HK5.out.alloc _) (HV5.out.alloc _)).mono ?_
        rintro e wq ⟨v6, rfl, ho, hf⟩
        obtain ⟨A6, c6, rfl, -, -, hr6, -⟩ := Own.form ho
        have HFq := Lib.hid ((HFp.out.alloc _).trans hf)
        have HBq := Lib.hid (show FB (wp.alloc (.cells #[.slice A5 key.length c5, .int .i64 0, .int .i64 value.length, .slice B5 value.length d5] 24)) wq from hf)
        obtain ⟨q0, q1, q2, q3⟩ := cells4 (box_row HBq.out)
        have hs5 := run_string c5 (HBq.out.rd (HK5.out.alloc _))
        have hs6 := run_string d5 (HBq.out.rd (HV5.out.alloc _))
        have hs2 := run_string c2 (HFq.out.rd HR2.out)
        have hs3 := run_string c3 (HFq.out.rd HR3.out)
        clear ho hf hr6
        go_wp2
        go_ret
        exact ⟨rfl, HFq.out⟩
      · have HMKx := Lib.hid (HMK.out hk1 hk2)
        have HBYx := Lib.hid (HBY.out hk1 hk2)
        have hrlen := HRLEN2.out hk2 hvo
        subst hfit hov hvo
        go_wp2_with fail
        refine (HMKx.out _ (HFn.out.rd HR2.out) (HFn.out.rd HR3.out)).mono ?_
        rintro e wp ⟨A5, c5, B5, d5, rfl, hk5, hv5, hf5, -, -⟩
        unfold recV
        have HFp := Lib.hid (HFn.out.trans hf5)
        have HK5 := Lib.hid hk5
        have HV5 := Lib.hid hv5
        clear hk5 hv5 hf5
        rw [List.length_nil]
        go_wp2_with fail
        refine (HBYx.out _ _ _ _ _ (HK5.out.alloc _) (HV5.out.alloc _)).mono ?_
        rintro e wq ⟨v6, rfl, ho, hf⟩
        obtain ⟨A6, c6, rfl, -, -, hr6, -⟩ := Own.form ho
        have HFq := Lib.hid ((HFp.out.alloc _).trans hf)
        have HBq := Lib.hid (show FB (wp.alloc (.cells #[.slice A5 key.length c5, .int .i64 (1 + (po : Int)), .int .i64 value.length, .slice B5 0 d5] 24)) wq from hf)
        obtain ⟨q0, q1, q2, q3⟩ := cells4 (box_row HBq.out)
        have hs5 := run_string c5 (HBq.out.rd (HK5.out.alloc _))
        have hs2 := run_string c2 (HFq.out.rd HR2.out)
        clear ho hf hr6
        go_wp2
        go_ret
        exact ⟨rfl, HFq.out⟩
    · have HBBx := Lib.hid (HBB.out hrc)
      subst hrc
      go_wp2_with fail
      refine (HBBx.out _).mono ?_
      rintro e wa ⟨rfl, hf⟩
      have HFa := Lib.hid (HFz.out.trans hf)
      have HBXa := Lib.hid (HBXz.out.trans hf)
      clear hf q0 q1 q2 q3
      obtain ⟨q0, q1, q2, q3⟩ := cells4 (box_row HBXa.out)
      go_wp2_with fail
      refine (HCKr.out _).mono ?_
      rintro e wb ⟨rfl, hf⟩
      have HFm := Lib.hid (HFa.out.trans hf)
      clear hf q0 q1 q2 q3
      go_wp2_with fail
      refine (HFT.out _ (HFm.out.rd HR2.out) (HFm.out.rd HR3.out)).mono ?_
      rintro e wn ⟨rfl, hf⟩
      have HFn := Lib.hid (HFm.out.trans hf)
      clear hf
      go_wp2_with fail
      refine (HP2.out _).mono ?_
      rintro e wo ⟨rfl, rfl⟩
      rcases HM.out with ⟨hkb, hfit⟩ | ⟨hk1, hk2, hfit, hov, hvo⟩ | ⟨hk1, hk2, hfit, hov, hvo⟩
      · have HMBx := Lib.hid (HMB.out hkb)
        subst hfit
        rcases hkb with hkb | ⟨hkb, hkc⟩
        all_goals
          go_wp2_with fail
          refine (HMBx.out _ (HFn.out.rd HR2.out) (HFn.out.rd HR3.out)).mono ?_
          rintro e wp ⟨rfl, hf⟩
          have HFp := Lib.hid (HFn.out.trans hf)
          clear hf
          unfold rec0 recV
          go_wp2
          go_ret
          exact ⟨rfl, HFp.out.alloc _⟩
      · have HMKx := Lib.hid (HMK.out hk1 hk2)
        have HBYx := Lib.hid (HBY.out hk1 hk2)
        have hrlen := HRLEN.out hfit
        replace hvo := hvo.symm
        subst hfit hov hvo
        go_wp2_with fail
        refine (HMKx.out _ (HFn.out.rd HR2.out) (HFn.out.rd HR3.out)).mono ?_
        rintro e wp ⟨A5, c5, B5, d5, rfl, hk5, hv5, hf5, -, -⟩
        unfold recV
        have HFp := Lib.hid (HFn.out.trans hf5)
        have HK5 := Lib.hid hk5
        have HV5 := Lib.hid hv5
        clear hk5 hv5 hf5
        go_wp2_with fail
        refine (HBYx.out _ _ _ _ _ (HK5.out.alloc _) (HV5.out.alloc _)).mono ?_
        rintro e wq ⟨v6, rfl, ho, hf⟩
        obtain ⟨A6, c6, rfl, -, -, hr6, -⟩ := Own.form ho
        have HFq := Lib.hid ((HFp.out.alloc _).trans hf)
        have HBq := Lib.hid (show FB (wp.alloc (.cells #[.slice A5 key.length c5, .int .i64 0, .int .i64 value.length, .slice B5 value.length d5] 24)) wq from hf)
        obtain ⟨q0, q1, q2, q3⟩ := cells4 (box_row HBq.out)
        have hs5 := run_string c5 (HBq.out.rd (HK5.out.alloc _))
        have hs6 := run_string d5 (HBq.out.rd (HV5.out.alloc _))
        have hs2 := run_string c2 (HFq.out.rd HR2.out)
        have hs3 := run_string c3 (HFq.out.rd HR3.out)
        clear ho hf hr6
        go_wp2
        go_ret
        exact ⟨rfl, HFq.out⟩
      · have HMKx := Lib.hid (HMK.out hk1 hk2)
        have HBYx := Lib.hid (HBY.out hk1 hk2)
        have hrlen := HRLEN2.out hk2 hvo
        subst hfit hov hvo
        go_wp2_with fail
        refine (HMKx.out _ (HFn.out.rd HR2.out) (HFn.out.rd HR3.out)).mono ?_
        rintro e wp ⟨A5, c5, B5, d5, rfl, hk5, hv5, hf5, -, -⟩
        unfold recV
        have HFp := Lib.hid (HFn.out.trans hf5)
        have HK5 := Lib.hid hk5
        have HV5 := Lib.hid hv5
        clear hk5 hv5 hf5
        rw [List.length_nil]
        go_wp2_with fail
        refine (HBYx.out _ _ _ _ _ (HK5.out.alloc _) (HV5.out.alloc _)).mono ?_
        rintro e wq ⟨v6, rfl, ho, hf⟩
        obtain ⟨A6, c6, rfl, -, -, hr6, -⟩ := Own.form ho
        have HFq := Lib.hid ((HFp.out.alloc _).trans hf)
        have HBq := Lib.hid (show FB (wp.alloc (.cells #[.slice A5 key.length c5, .int .i64 (1 + (po : Int)), .int .i64 value.length, .slice B5 0 d5] 24)) wq from hf)
        obtain ⟨q0, q1, q2, q3⟩ := cells4 (box_row HBq.out)
        have hs5 := run_string c5 (HBq.out.rd (HK5.out.alloc _))
        have hs2 := run_string c2 (HFq.out.rd HR2.out)
        clear ho hf hr6
        go_wp2
        go_ret
        exact ⟨rfl, HFq.out⟩
set_option maxRecDepth 100000 in
set_option maxHeartbeats 1000000 in
theorem recordBack_much (A0 : Option Addr) (c0 : Nat) (ks : List Byte) (o s : Int) (B0 : Option Addr) (d0 : Nat) (vs : List Byte) (A1 : Option Addr) (c1 : Nat) (b : List Byte) (A2 : Option Addr) (c2 : Nat) (key : List Byte) (A3 : Option Addr) (c3 : Nat) (value : List Byte) (over : Int) (w : World)
    (h : 5000 < ks.length ∨ (ks.length ≤ 5000 ∧ 5000 < vs.length) ∨ (ks.length ≤ 5000 ∧ vs.length ≤ 5000 ∧ 5000 < b.length) ∨ (ks.length ≤ 5000 ∧ vs.length ≤ 5000 ∧ b.length ≤ 5000 ∧ 5000 < key.length) ∨ (ks.length ≤ 5000 ∧ vs.length ≤ 5000 ∧ b.length ≤ 5000 ∧ key.length ≤ 5000 ∧ 5000 < value.length)) :
    Calls Try.prog 3 #[.agg #[.slice A0 ks.length c0, .int .i64 o, .int .i64 s, .slice B0 vs.length d0], .slice A1 b.length c1, .slice A2 key.length c2, .slice A3 value.length c3, .int .i64 over] w fun e w' => e = .returned (.bool true) ∧ Below w.heap.size w w' := by
  rcases h with h | ⟨h, h'⟩ | ⟨h, h', h''⟩ | ⟨h, h', h'', h3⟩ | ⟨h, h', h'', h3, h4⟩
  all_goals
    go_enter Try.func3, Try.ntmps3
    go_wp2_with fail
    refine (rec_lives _).mono ?_
    rintro e w1 ⟨rfl, hf⟩
    have HBX1 := Lib.hid hf
    have HF1 := Lib.hid (((FB.refl w).alloc (.cells #[.slice A0 ks.length c0, .int .i64 o, .int .i64 s, .slice B0 vs.length d0] 24)).trans hf)
    obtain ⟨q0, q1, q2, q3⟩ := cells4 (box_row HBX1.out)
    clear hf
    go_wp2
    go_ret
    exact ⟨rfl, HF1.out⟩
theorem recordBack_walk (A0 : Option Addr) (c0 : Nat) (ks : List Byte) (o s : Int) (B0 : Option Addr) (d0 : Nat) (vs : List Byte) (A1 : Option Addr) (c1 : Nat) (b : List Byte) (A2 : Option Addr) (c2 : Nat) (key : List Byte) (A3 : Option Addr) (c3 : Nat) (value : List Byte) (over : Int) (w : World)
    (_ : ks.length ≤ c0) (_ : c0 ≤ maxLen) (hk0 : Rd w A0 ks) (_ : vs.length ≤ d0) (_ : d0 ≤ maxLen) (hv0 : Rd w B0 vs) (_ : -9223372036854775808 ≤ o ∧ o ≤ 9223372036854775807) (_ : -9223372036854775808 ≤ s ∧ s ≤ 9223372036854775807)
    (hc1 : b.length ≤ c1) (_ : c1 ≤ maxLen) (hr1 : Rd w A1 b) (_ : key.length ≤ c2) (_ : c2 ≤ maxLen) (hr2 : Rd w A2 key) (_ : value.length ≤ c3) (_ : c3 ≤ maxLen) (hr3 : Rd w A3 value) (_ : -9223372036854775808 ≤ over ∧ over ≤ 9223372036854775807) :
    Calls Try.prog 3 #[.agg #[.slice A0 ks.length c0, .int .i64 o, .int .i64 s, .slice B0 vs.length d0], .slice A1 b.length c1, .slice A2 key.length c2, .slice A3 value.length c3, .int .i64 over] w fun e w' => e = .returned (.bool true) ∧ Below w.heap.size w w' := by
  by_cases h : ks.length ≤ 5000 ∧ vs.length ≤ 5000 ∧ b.length ≤ 5000 ∧ key.length ≤ 5000 ∧ value.length ≤ 5000
  · exact recordBack_few A0 c0 ks o s B0 d0 vs A1 c1 b A2 c2 key A3 c3 value over w h.1 h.2.1 h.2.2.1 h.2.2.2.1 h.2.2.2.2 hk0 hv0 hc1 hr1 hr2 hr3
  · exact recordBack_much A0 c0 ks o s B0 d0 vs A1 c1 b A2 c2 key A3 c3 value over w (by omega)
end Go.Proofs.Ytjhgnohofcahbaa
