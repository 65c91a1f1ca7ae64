/- pool: the walks through Put, Clean, Flush. -/
import Derived.Test.YtoidlmhebnlnbaaPlF
import Derived.Test.YtoidlmhebnlnbaaDskR
set_option linter.unusedVariables false
set_option linter.unusedSimpArgs false
namespace Go.Proofs.Ytoidlmhebnlnbaa
open Go.ChangeShapes Go.WideShapes Go.ChangeAt Go.RowKit
attribute [local go_sem] nb_nonneg nb_lt8 nb_lt64
set_option maxRecDepth 100000

section
variable {w w' w1 w2 : World} {F : List Nat} {g n gp gf hand : Nat} {xs : List FrX} {D : DiskSt} {st st' : PlSt}
theorem plPut_out {k : Int} {b : List Byte} (ho : pgOut n k ∨ b.length ≠ 4096) : plPut n st k b = (2, st) := by unfold plPut; rw [if_pos ho]
theorem plPut_hit {k : Int} {b : List Byte} {i : Nat} (ho : ¬ (pgOut n k ∨ b.length ≠ 4096)) (hf : plFind st.fs k = some i) : plPut n st k b = (0, { st with fs := st.fs.set i { (st.fs.getD i frm0) with b := b, dirty := true, used := true } }) := by unfold plPut; rw [if_neg ho, hf]
theorem plPut_full {k e : Int} {b : List Byte} {st1 : PlSt} (ho : ¬ (pgOut n k ∨ b.length ≠ 4096)) (hf : plFind st.fs k = none) (hr : plRoom n st = ((none, e), st1)) : plPut n st k b = (e, st1) := by unfold plPut; rw [if_neg ho, hf]; simp only [hr]
theorem plPut_new {k e : Int} {b : List Byte} {i : Nat} {st1 : PlSt} (ho : ¬ (pgOut n k ∨ b.length ≠ 4096)) (hf : plFind st.fs k = none) (hr : plRoom n st = ((some i, e), st1)) : plPut n st k b = (0, { st1 with fs := st1.fs.set i ⟨true, k, 0, true, true, b⟩ }) := by unfold plPut; rw [if_neg ho, hf]; simp only [hr]
set_option maxHeartbeats 2000000 in
theorem pl_Put (h : Pol w F g n gp gf xs hand D) (k : Int) (A : Option Addr) (ca : Nat) (b : List Byte) (hl : b.length ≤ 100000000000) (hrd : Rd w A b) (hA : ∀ ad, A = some ad → ad.block ∉ gp :: gf :: F) :
    Calls Try.prog 13 #[.pointer (some ⟨gp, 0, none⟩), .int .i64 k, .slice A b.length ca] w fun e w' => e = .returned (.int .i64 (plPut n (plOf xs hand D) k b).1) ∧ PolR w F g n gp gf (plPut n (plOf xs hand D) k b).2 w' := by
  have HM := Lib.hid (pl_made h)
  have HRT := Lib.hid (pl_right h k)
  have HFN := Lib.hid (pl_find h k)
  have HRM := Lib.hid (pl_room h)
  have HRC := Lib.hid (plRoom_code n (plOf xs hand D))
  have HRD := Lib.hid (fun (W : World) (t : TS (gp :: gf :: F) w W) => t.rd hrd hA)
  have H := Lib.hid h
  have HL := Lib.hid hl
  obtain ⟨R, hR⟩ : ∃ R, R = plPut n (plOf xs hand D) k b := ⟨_, rfl⟩
  rw [← hR]
  have HR := Lib.hid hR
  clear h hR hrd hA hl
  by_cases ho : pgOut n k
  · have hd : decide (pgOut n k) = true := decide_eq_true ho
    have HQ := Lib.hid (HR.out.trans (plPut_out (.inl ho)))
    clear ho HR
    go_enter Try.func13, Try.ntmps13
    go_wp2_with fail
    refine HM.out.mono ?_
    rintro e w1 ⟨rfl, rfl⟩
    go_wp2_with fail
    refine HRT.out.mono ?_
    rintro e w1 ⟨rfl, rfl⟩
    go_wp2
    go_ret
    rw [HQ.out]
    exact ⟨rfl, PolR.same H.out⟩
  have hd : decide (pgOut n k) = false := decide_eq_false ho
  by_cases hbl : b.length = 4096
  case neg =>
    have HQ := Lib.hid (HR.out.trans (plPut_out (.inr hbl)))
    clear ho HR
    have hz : ¬ (b.length : Int) = 4096 := by omega
    have hz2 : ((b.length : Int) != 4096) = true := by simpa using hz
    have HBL := Lib.hid hbl
    clear hbl
    go_enter Try.func13, Try.ntmps13
    go_wp2_with fail
    refine HM.out.mono ?_
    rintro e w1 ⟨rfl, rfl⟩
    go_wp2_with fail
    refine HRT.out.mono ?_
    rintro e w1 ⟨rfl, rfl⟩
    go_wp2
    go_ret
    rw [HQ.out]
    exact ⟨rfl, PolR.same H.out⟩
  have HO := Lib.hid (show ¬ (pgOut n k ∨ b.length ≠ 4096) from fun h => h.elim ho (fun h => h hbl))
  have HBL := Lib.hid hbl
  have hz : (b.length : Int) = 4096 := by omega
  clear ho hbl
  go_enter Try.func13, Try.ntmps13
  go_wp2_with fail
  refine HM.out.mono ?_
  rintro e w1 ⟨rfl, rfl⟩
  go_wp2_with fail
  refine HRT.out.mono ?_
  rintro e w1 ⟨rfl, rfl⟩
  go_wp2_with fail
  refine HFN.out.mono ?_
  rintro e w1 ⟨rfl, rfl⟩
  clear HFN HRT hd HM hz
  cases hf : plFind (xs.map (·.f)) k with
  | some i =>
    have HI := Lib.hid (show i < xs.length from by have := (plFind_lt hf).1; rwa [List.length_map] at this)
    have hq := HR.out.trans (plPut_hit HO.out (show plFind (plOf xs hand D).fs k = some i from hf))
    rw [plGetS xs hand D i HI.out] at hq
    have HQ := Lib.hid hq
    have HT := Lib.hid (TS.refl (gp :: gf :: F) w)
    clear hf hq HR HRM HRC
    have HX := Lib.hid (sl_Clone b A _ ca w rfl (by rw [HBL.out]; omega) (HRD.out w HT.out))
    simp only [plPtr]
    go_wp2_with fail
    refine HX.out.mono ?_
    rintro e wc ⟨A2, c2, rfl, ho, hb⟩
    have HPC := Lib.hid (H.out.fb hb)
    have HOK := Lib.hid (show FrOk wc F gp gf ⟨{ (xs[i]'(HI.out)).f with b := b, dirty := true, used := true }, A2, c2⟩ from ⟨ho.info.2.2.1, ho.info.1, ho.info.2.1, fun ad ha => by
      subst ha
      have h1 := ho.bnd ad.block rfl
      have hlt := H.out.lt
      exact ⟨rd_lt ho.info.2.2.1 (fun e => by have := HBL.out; rw [e] at this; cases this), (fun hm => by have := H.out.dsk.lt _ hm; omega), by omega, by omega⟩, by show b.length ≤ _; rw [HBL.out]; omega⟩)
    have HTC := Lib.hid (HT.out.then (TS.of hb))
    have u5 := HPC.out.fz (i * 6 + 5)
    have u3 := HPC.out.fz (i * 6 + 3)
    have u4 := HPC.out.fz (i * 6 + 4)
    obtain ⟨-, -, -, c3, c4, c5⟩ := HPC.out.cells i HI.out
    have HPZ := Lib.hid (HPC.out.setBDU i HI.out A2 c2 b HOK.out)
    have HTZ := Lib.hid (show TS (gp :: gf :: F) w (((wc.setCell ⟨gf, i * 6 + 5, none⟩ (.slice A2 b.length c2)).setCell ⟨gf, i * 6 + 3, none⟩ (.bool true)).setCell ⟨gf, i * 6 + 4, none⟩ (.bool true)) from HTC.out.then (((TS.tb (TB.set (g := gf) _ _ _) (by simp)).then (TS.tb (TB.set (g := gf) _ _ _) (by simp))).then (TS.tb (TB.set (g := gf) _ _ _) (by simp))))
    have HZM := Lib.hid (show (xs.set i ⟨{ (xs[i]'(HI.out)).f with b := b, dirty := true, used := true }, A2, c2⟩).map (·.f) = (xs.map (·.f)).set i { (xs[i]'(HI.out)).f with b := b, dirty := true, used := true } from by rw [List.map_set])
    clear ho hb HX H HOK HRD
    generalize xs.set i ⟨{ (xs[i]'(HI.out)).f with b := b, dirty := true, used := true }, A2, c2⟩ = vs at *
    generalize xs[i]'(HI.out) = x at *
    go_wp2
    go_ret
    rw [HQ.out]
    exact ⟨rfl, F, vs, HPZ.out, HZM.out, fun _ hx => .inl hx, HTZ.out⟩
  | none =>
    obtain ⟨S, hS⟩ : ∃ S, S = plRoom n (plOf xs hand D) := ⟨_, rfl⟩
    rw [← hS] at HRM HRC
    have HS := Lib.hid hS.symm
    have HF := Lib.hid (show plFind (plOf xs hand D).fs k = none from hf)
    clear hf hS
    obtain ⟨⟨so, se⟩, st1⟩ := S
    simp only [plPtr]
    go_wp2_with fail
    refine HRM.out.mono ?_
    rintro e w1 ⟨rfl, hres, hlt⟩
    obtain ⟨F1, ys, hp1, hys, hin, hts⟩ := hres
    have HP1 := Lib.hid hp1
    have HIN := Lib.hid hin
    have HTS := Lib.hid hts
    have HYS := Lib.hid hys
    have HLT := Lib.hid hlt
    clear hp1 hin hts hys hlt HRM H
    cases so with
    | none =>
      have hse : (se != 0) = true := by have := HRC.out.1 rfl; simpa using this
      have HQ := Lib.hid (HR.out.trans (plPut_full HO.out HF.out HS.out))
      simp only [plPtr]
      clear HR HS HF HRC
      go_wp2
      go_ret
      rw [HQ.out]
      exact ⟨rfl, F1, ys, HP1.out, HYS.out, HIN.out, HTS.out⟩
    | some i =>
      have hse : se = 0 := HRC.out.2 (by simp)
      subst hse
      have HI := Lib.hid (show i < xs.length from HLT.out i rfl)
      have HIY := Lib.hid (show i < ys.length from by have h1 := plRoom_len n (plOf xs hand D); rw [HS.out, ← HYS.out] at h1; simp only [List.length_map, plOf] at h1; rw [h1]; exact HI.out)
      have hq := HR.out.trans (plPut_new HO.out HF.out HS.out)
      obtain ⟨hst, hpw, hmp⟩ := HP1.out.putF i HIY.out ⟨true, k, 0, false, false, []⟩ none 0 (Rd.nil _ _) (Nat.le_refl _) (Nat.zero_le _) (Nat.zero_le _) (fun ad ha => by cases ha)
      have HIZ := Lib.hid (show i < (ys.set i ⟨⟨true, k, 0, false, false, []⟩, none, 0⟩).length from by rw [List.length_set]; exact HIY.out)
      have HZE := Lib.hid (show ((ys.set i ⟨⟨true, k, 0, false, false, []⟩, none, 0⟩)[i]'(HIZ.out)).f = ⟨true, k, 0, false, false, []⟩ from by rw [List.getElem_set_self])
      have HQ := Lib.hid (show R = (0, ⟨((ys.set i ⟨⟨true, k, 0, false, false, []⟩, none, 0⟩).map (·.f)).set i { ((ys.set i ⟨⟨true, k, 0, false, false, []⟩, none, 0⟩)[i]'(HIZ.out)).f with b := b, dirty := true, used := true }, st1.hand, st1.D⟩) from by
        rw [HZE.out, hq, hmp, List.set_set, HYS.out])
      obtain ⟨w3, hw3⟩ : ∃ w3 : World, w3 = w1.setRow gf (frFlat (ys.set i ⟨⟨true, k, 0, false, false, []⟩, none, 0⟩)).toArray := ⟨_, rfl⟩
      rw [← hw3] at hst hpw
      have HP3 := Lib.hid hpw
      have HT3 := Lib.hid (show TS (gp :: gf :: F) w w3 from by rw [hw3]; exact HTS.out.then (TS.row _ gf w1 _ (by simp)))
      generalize ys.set i ⟨⟨true, k, 0, false, false, []⟩, none, 0⟩ = zs at *
      clear hq hw3 hpw hmp HR HS HF HRC HLT HP1 HTS HYS HZE
      replace hst : (Instr.storeAt 63 (.pointer (some ⟨gf, i * 6, none⟩)) (.agg #[.bool true, .int .i64 k, .int .i64 0, .bool false, .bool false, .slice none 0 0])).run Try.prog w1 = .ok () w3 := hst
      have HX := Lib.hid (sl_Clone b A _ ca w3 rfl (by rw [HBL.out]; omega) (HRD.out w3 HT3.out))
      simp only [plPtr]
      go_wp2_with (refine wpList_store_by rfl _ _ _ rfl _ hst ?_)
      clear hst
      go_wp2_with fail
      refine HX.out.mono ?_
      rintro e wc ⟨A2, c2, rfl, ho, hb⟩
      have HPC := Lib.hid (HP3.out.fb hb)
      have HOK := Lib.hid (show FrOk wc F1 gp gf ⟨{ (zs[i]'(HIZ.out)).f with b := b, dirty := true, used := true }, A2, c2⟩ from ⟨ho.info.2.2.1, ho.info.1, ho.info.2.1, fun ad ha => by
        subst ha
        have h1 := ho.bnd ad.block rfl
        have hlt := HP3.out.lt
        exact ⟨rd_lt ho.info.2.2.1 (fun e => by have := HBL.out; rw [e] at this; cases this), (fun hm => by have := HP3.out.dsk.lt _ hm; omega), by omega, by omega⟩, by show b.length ≤ _; rw [HBL.out]; omega⟩)
      have HTC := Lib.hid (HT3.out.then (TS.of hb))
      have u5 := HPC.out.fz (i * 6 + 5)
      have u3 := HPC.out.fz (i * 6 + 3)
      have u4 := HPC.out.fz (i * 6 + 4)
      obtain ⟨-, -, -, c3, c4, c5⟩ := HPC.out.cells i HIZ.out
      have HPZ := Lib.hid (HPC.out.setBDU i HIZ.out A2 c2 b HOK.out)
      have HTZ := Lib.hid (show TS (gp :: gf :: F) w (((wc.setCell ⟨gf, i * 6 + 5, none⟩ (.slice A2 b.length c2)).setCell ⟨gf, i * 6 + 3, none⟩ (.bool true)).setCell ⟨gf, i * 6 + 4, none⟩ (.bool true)) from HTC.out.then (((TS.tb (TB.set (g := gf) _ _ _) (by simp)).then (TS.tb (TB.set (g := gf) _ _ _) (by simp))).then (TS.tb (TB.set (g := gf) _ _ _) (by simp))))
      have HZM := Lib.hid (show (zs.set i ⟨{ (zs[i]'(HIZ.out)).f with b := b, dirty := true, used := true }, A2, c2⟩).map (·.f) = (zs.map (·.f)).set i { (zs[i]'(HIZ.out)).f with b := b, dirty := true, used := true } from by rw [List.map_set])
      clear ho hb HX HP3 HOK HRD
      generalize zs.set i ⟨{ (zs[i]'(HIZ.out)).f with b := b, dirty := true, used := true }, A2, c2⟩ = vs at *
      generalize zs[i]'(HIZ.out) = x at *
      go_wp2
      go_ret
      rw [HQ.out]
      exact ⟨rfl, F1, vs, HPZ.out, HZM.out, HIN.out, HTZ.out⟩
set_option maxHeartbeats 1000000 in
theorem pl_Clean (h : Pol w F g n gp gf xs hand D) :
    Calls Try.prog 18 #[.pointer (some ⟨gp, 0, none⟩)] w fun e w' => e = .returned (.int .i64 (plClean n (plOf xs hand D)).1) ∧ PolR w F g n gp gf (plClean n (plOf xs hand D)).2 w' := by
  have HM := Lib.hid (pl_made h)
  have H := Lib.hid h
  have HN := Lib.hid h.n256
  obtain ⟨p0, p1, p2⟩ := h.pcells
  obtain ⟨R, hR⟩ : ∃ R, R = plClean n (plOf xs hand D) := ⟨_, rfl⟩
  rw [← hR]
  unfold plClean at hR
  rw [show (plOf xs hand D).fs.length = xs.length from List.length_map _] at hR
  have HR := Lib.hid hR
  clear h hR
  go_enter Try.func18, Try.ntmps18
  go_wp2_with fail
  refine HM.out.mono ?_
  rintro e w1 ⟨rfl, rfl⟩
  go_wp2_with fail
  clear p0 p1 p2 HM
  go_loopw [3, 4, 13] (fun _ _ i wr => ∃ (j : Nat) (F1 : List Nat) (ys : List FrX) (D' : DiskSt), j ≤ xs.length ∧ i = .int .i64 j ∧ Hid (ys.length = xs.length) ∧ Hid (Pol wr F1 g n gp gf ys hand D') ∧ Hid (R = plCleanF n (xs.length - j) j (plOf ys hand D')) ∧ Hid (TS (gp :: gf :: F) w wr) ∧ Hid (∀ x ∈ F1, x ∈ F ∨ w.heap.size ≤ x)) (fun _ _ i _ => xs.length - (intOf i).toNat)
  case atStart => exact ⟨0, F, xs, D, by omega, rfl, Lib.hid rfl, H, HR, Lib.hid (TS.refl _ _), Lib.hid (fun _ hx => .inl hx)⟩
  case round =>
    clear HR H
    obtain ⟨j, F1, ys, D', hj, rfl, HYL, HP, HQ, HT, HIN⟩ := hrel
    by_cases hlt : j < xs.length
    · have hz : (j : Int) < (xs.length : Int) := by omega
      have HJ := Lib.hid hlt
      have HJY := Lib.hid (show j < ys.length from by rw [HYL.out]; exact hlt)
      have hwk : IntKind.i64.wrap ((j : Int) + 1) = (j : Int) + 1 := by rw [IntKind.wrap_i64]; have := HN.out; omega
      obtain ⟨p0, p1, p2⟩ := HP.out.pcells
      rw [HYL.out] at p1
      have hrj := HQ.out
      rw [show xs.length - j = (xs.length - (j + 1)) + 1 from by omega, plCleanF, plGetS ys hand D' j HJY.out] at hrj
      have HSV := Lib.hid (pl_save HP.out j HJY.out)
      have HPS := Lib.hid (show plSaved ys j HJY.out n D' = ys.set j ⟨(plSave (ys[j]'(HJY.out)).f n D').2.1, (ys[j]'(HJY.out)).A, (ys[j]'(HJY.out)).c⟩ from rfl)
      have HPF := Lib.hid (plSave_off (ys[j]'(HJY.out)).f n D')
      have HYS := Lib.hid (show ys.set j ⟨(ys[j]'(HJY.out)).f, (ys[j]'(HJY.out)).A, (ys[j]'(HJY.out)).c⟩ = ys from List.set_getElem_self _)
      generalize plSaved ys j HJY.out n D' = zs at *
      generalize ys[j]'(HJY.out) = x at *
      replace hrj : R = (if (plSave x.f n D').1 = 0 then plCleanF n (xs.length - (j + 1)) (j + 1) ⟨(ys.map (·.f)).set j (plSave x.f n D').2.1, hand, (plSave x.f n D').2.2⟩ else ((plSave x.f n D').1, plOf ys hand (plSave x.f n D').2.2)) := hrj
      have HRJ := Lib.hid hrj
      clear hrj HQ hlt hj
      generalize plSave x.f n D' = sv at *
      obtain ⟨er, f2, D2⟩ := sv
      go_wp2_with fail
      refine HSV.out.mono ?_
      rintro e wb ⟨rfl, F2, hp2, hin, hts⟩
      have HPB := Lib.hid hp2
      have HIN2 := Lib.hid (show ∀ x ∈ F2, x ∈ F ∨ w.heap.size ≤ x from fun x hx => (hin x hx).elim (fun h => HIN.out x h) (fun h => .inr (Nat.le_trans HT.out.size h)))
      have HTB := Lib.hid (show TS (gp :: gf :: F) w wb from HT.out.trans hts (fun x hx => by
        rcases List.mem_cons.1 hx with rfl | hx
        · exact .inl (by simp)
        · exact (HIN.out x hx).imp (fun h => List.mem_cons_of_mem _ (List.mem_cons_of_mem _ h)) id))
      clear hp2 hin hts HSV p0 p1 p2
      try simp only at HPS
      try simp only at HPF
      by_cases he : er = 0
      · subst he
        have HQ2 := Lib.hid (show R = plCleanF n (xs.length - (j + 1)) (j + 1) (plOf zs hand D2) from (HRJ.out.trans (if_pos rfl)).trans (by unfold plOf; rw [HPS.out, List.map_set]))
        have HZL := Lib.hid (show zs.length = xs.length from by rw [HPS.out, List.length_set]; exact HYL.out)
        clear HRJ HPS HPF HYS HP
        go_wp2_with fail
        go_roundw
        case rel => exact ⟨j + 1, F2, zs, D2, by have := HJ.out; omega, by go_num, HZL, HPB, HQ2, HTB, HIN2⟩
        case measure => (show xs.length - ((j : Int) + 1).toNat < xs.length - ((j : Int)).toNat; have := HJ.out; omega)
      · have heb : (er != 0) = true := by simpa using he
        have HQ2 := Lib.hid (HRJ.out.trans (if_neg he))
        have HZY := Lib.hid (show zs = ys from by rw [HPS.out, HPF.out he]; exact HYS.out)
        clear he
        go_wp2
        go_ret
        rw [HQ2.out]
        exact ⟨rfl, F2, ys, by have h := HPB.out; rw [HZY.out] at h; exact h, rfl, HIN2.out, HTB.out⟩
    · have hz : ¬ (j : Int) < (xs.length : Int) := by omega
      have HQ2 := Lib.hid (show R = (0, plOf ys hand D') from by have := HQ.out; rw [show xs.length - j = 0 by omega] at this; exact this)
      clear HQ hlt hj
      go_wp2
      go_ret
      rw [HQ2.out]
      exact ⟨rfl, F1, ys, HP.out, rfl, HIN.out, HT.out⟩
/-- Flush. -/
def plFlush (n : Nat) (st : PlSt) : Int × PlSt :=
  if (plClean n st).1 = 0 then ((sdFlush (plClean n st).2.D).1, { (plClean n st).2 with D := (sdFlush (plClean n st).2.D).2 }) else plClean n st
set_option maxHeartbeats 1000000 in
theorem pl_Flush (h : Pol w F g n gp gf xs hand D) :
    Calls Try.prog 21 #[.pointer (some ⟨gp, 0, none⟩)] w fun e w' => e = .returned (.int .i64 (plFlush n (plOf xs hand D)).1) ∧ PolR w F g n gp gf (plFlush n (plOf xs hand D)).2 w' := by
  have HC := Lib.hid (pl_Clean h)
  obtain ⟨R, hR⟩ : ∃ R, R = plFlush n (plOf xs hand D) := ⟨_, rfl⟩
  rw [← hR]
  unfold plFlush at hR
  have HR := Lib.hid hR
  clear h hR
  generalize plClean n (plOf xs hand D) = C at *
  obtain ⟨ce, st1⟩ := C
  go_enter Try.func21, Try.ntmps21
  go_wp2_with fail
  refine HC.out.mono ?_
  rintro e w1 ⟨rfl, F1, ys, hp1, hys, hin, hts⟩
  have HP1 := Lib.hid hp1
  have HYS := Lib.hid hys
  have HIN := Lib.hid hin
  have HTS := Lib.hid hts
  clear HC hp1 hys hin hts
  by_cases he : ce = 0
  · subst he
    have HQ := Lib.hid (HR.out.trans (if_pos rfl))
    obtain ⟨p0, p1, p2⟩ := HP1.out.pcells
    have HD := Lib.hid (dsk_Flush HP1.out.dsk)
    clear HR
    go_wp2_with fail
    refine HD.out.mono ?_
    rintro e w2 ⟨rfl, hd2, ht2⟩
    have HP2 := Lib.hid (HP1.out.disk hd2 (fun x hx => .inl hx) ht2)
    have HT2 := Lib.hid (show TS (gp :: gf :: F) w w2 from HTS.out.trans ht2 (fun x hx => (HIN.out x hx).imp (fun h => List.mem_cons_of_mem _ (List.mem_cons_of_mem _ h)) id))
    clear hd2 ht2 HD p0 p1 p2
    go_wp2
    go_ret
    rw [HQ.out]
    exact ⟨rfl, F1, ys, HP2.out, HYS.out, HIN.out, HT2.out⟩
  · have heb : (ce != 0) = true := by simpa using he
    have HQ := Lib.hid (HR.out.trans (if_neg he))
    clear he HR
    go_wp2
    go_ret
    rw [HQ.out]
    exact ⟨rfl, F1, ys, HP1.out, HYS.out, HIN.out, HTS.out⟩
end
end Go.Proofs.Ytoidlmhebnlnbaa
