/- pool: the walks through Evict, Drop, Put, Clean, Flush. -/
import Derived.Test.YtoidlmhebnlnbaaPlE
set_option linter.unusedVariables false
set_option linter.unusedSimpArgs false
namespace Go.Proofs.Ytoidlmhebnlnbaa
open Go.ChangeShapes Go.WideShapes Go.ChangeAt Go.RowKit
attribute [local go_sem] nb_nonneg nb_lt8 nb_lt64
set_option maxRecDepth 100000

section
variable {w w' w1 w2 : World} {F : List Nat} {g n gp gf hand : Nat} {xs : List FrX} {D : DiskSt} {st st' : PlSt}
theorem Pol.zeroF (h : Pol w F g n gp gf xs hand D) (i : Nat) (hi : i < xs.length) :
    (Instr.storeAt 63 (.pointer (some ⟨gf, i * 6, none⟩)) (.agg #[.bool false, .int .i64 0, .int .i64 0, .bool false, .bool false, .slice none 0 0])).run Try.prog w = .ok () (w.setRow gf (frFlat (xs.set i frx0)).toArray) ∧
      Pol (w.setRow gf (frFlat (xs.set i frx0)).toArray) F g n gp gf (xs.set i frx0) hand D ∧ (xs.set i frx0).map (·.f) = (xs.map (·.f)).set i frm0 :=
  ⟨h.storeF i hi frx0, h.wholeF i frx0 (frx0_ok _ _ _ _), by rw [List.map_set]; rfl⟩
set_option maxHeartbeats 1000000 in
theorem pl_Drop (h : Pol w F g n gp gf xs hand D) (k : Int) :
    Calls Try.prog 14 #[.pointer (some ⟨gp, 0, none⟩), .int .i64 k] w fun e w' => e = .returned (.int .i64 (plDrop n (plOf xs hand D) k).1) ∧ PolR w F g n gp gf (plDrop n (plOf xs hand D) k).2 w' := by
  have HM := Lib.hid (pl_made h)
  have HRT := Lib.hid (pl_right h k)
  have HFN := Lib.hid (pl_find h k)
  have H := Lib.hid h
  obtain ⟨R, hR⟩ : ∃ R, R = plDrop n (plOf xs hand D) k := ⟨_, rfl⟩
  rw [← hR]
  unfold plDrop at hR
  have HR := Lib.hid hR
  clear h hR
  go_enter Try.func14, Try.ntmps14
  go_wp2_with fail
  refine HM.out.mono ?_
  rintro e w1 ⟨rfl, rfl⟩
  go_wp2_with fail
  refine HRT.out.mono ?_
  rintro e w1 ⟨rfl, rfl⟩
  by_cases ho : pgOut n k
  · have hd : decide (pgOut n k) = true := decide_eq_true ho
    have HQ := Lib.hid (HR.out.trans (if_pos ho))
    clear ho HR
    go_wp2
    go_ret
    rw [HQ.out]
    exact ⟨rfl, PolR.same H.out⟩
  have hd : decide (pgOut n k) = false := decide_eq_false ho
  have hr := HR.out.trans (if_neg ho)
  have HQ := Lib.hid hr
  clear ho HR hr
  go_wp2_with fail
  refine HFN.out.mono ?_
  rintro e w1 ⟨rfl, rfl⟩
  clear HFN HM HRT hd
  cases hf : plFind (xs.map (·.f)) k with
  | none =>
    have hq := HQ.out
    rw [show plFind (plOf xs hand D).fs k = none from hf] at hq
    have HQ2 := Lib.hid (show R = (0, plOf xs hand D) from hq)
    clear hf HQ hq
    simp only [plPtr]
    go_wp2
    go_ret
    rw [HQ2.out]
    exact ⟨rfl, PolR.same H.out⟩
  | some i =>
    have HI := Lib.hid (show i < xs.length from by have := (plFind_lt hf).1; rwa [List.length_map] at this)
    have hq := HQ.out
    rw [show plFind (plOf xs hand D).fs k = some i from hf] at hq
    obtain ⟨hst, hpw, hmp⟩ := H.out.zeroF i HI.out
    have HQ2 := Lib.hid (show R = (0, plOf (xs.set i frx0) hand D) from hq.trans (by unfold plOf; rw [hmp]))
    have HP := Lib.hid hpw
    have HT := Lib.hid (TS.row (gp :: gf :: F) gf w (frFlat (xs.set i frx0)).toArray (by simp))
    generalize xs.set i frx0 = ys at *
    generalize w.setRow gf (frFlat ys).toArray = w3 at *
    clear hf HQ hq hpw hmp H
    simp only [plPtr]
    go_wp2_with (refine wpList_store_by rfl _ _ _ rfl _ hst ?_)
    clear hst
    go_wp2
    go_ret
    rw [HQ2.out]
    exact ⟨rfl, PolR.of HP.out HT.out⟩
theorem plGetS (xs : List FrX) (hand : Nat) (D : DiskSt) (i : Nat) (h : i < xs.length) : (plOf xs hand D).fs.getD i frm0 = xs[i].f := plGetD xs i h
set_option maxHeartbeats 1000000 in
theorem pl_Evict (h : Pol w F g n gp gf xs hand D) (k : Int) :
    Calls Try.prog 12 #[.pointer (some ⟨gp, 0, none⟩), .int .i64 k] w fun e w' => e = .returned (.int .i64 (plEvict n (plOf xs hand D) k).1) ∧ PolR w F g n gp gf (plEvict n (plOf xs hand D) k).2 w' := by
  have HM := Lib.hid (pl_made h)
  have H := Lib.hid h
  obtain ⟨p0, p1, p2⟩ := h.pcells
  obtain ⟨R, hR⟩ : ∃ R, R = plEvict n (plOf xs hand D) k := ⟨_, rfl⟩
  rw [← hR]
  unfold plEvict at hR
  rw [show (plOf xs hand D).fs.length = xs.length from List.length_map _] at hR
  have HR := Lib.hid hR
  clear h hR
  by_cases h1 : k < 0
  · have HQ := Lib.hid (HR.out.trans (if_pos (.inl h1)))
    go_enter Try.func12, Try.ntmps12
    go_wp2_with fail
    refine HM.out.mono ?_
    rintro e w1 ⟨rfl, rfl⟩
    go_wp2
    go_ret
    rw [HQ.out]
    exact ⟨rfl, PolR.same H.out⟩
  by_cases h2 : (xs.length : Int) ≤ k
  · have HQ := Lib.hid (HR.out.trans (if_pos (.inr h2)))
    go_enter Try.func12, Try.ntmps12
    go_wp2_with fail
    refine HM.out.mono ?_
    rintro e w1 ⟨rfl, rfl⟩
    go_wp2
    go_ret
    rw [HQ.out]
    exact ⟨rfl, PolR.same H.out⟩
  have hr := HR.out.trans (if_neg (by omega))
  obtain ⟨i, rfl⟩ : ∃ i : Nat, k = (i : Int) := ⟨k.toNat, by omega⟩
  have HI := Lib.hid (show i < xs.length from by omega)
  rw [show ((i : Int)).toNat = i by omega, plGetS xs hand D i HI.out] at hr
  have hz : (i : Int) < (xs.length : Int) := by omega
  have HQ := Lib.hid hr
  obtain ⟨c0, c1, c2, c3, c4, c5⟩ := H.out.cells i HI.out
  have HSV := Lib.hid (pl_save H.out i HI.out)
  have HPS := Lib.hid (show plSaved xs i HI.out n D = xs.set i ⟨(plSave (xs[i]'(HI.out)).f n D).2.1, (xs[i]'(HI.out)).A, (xs[i]'(HI.out)).c⟩ from rfl)
  have HPF := Lib.hid (plSave_off (xs[i]'(HI.out)).f n D)
  have HYS := Lib.hid (show xs.set i ⟨(xs[i]'(HI.out)).f, (xs[i]'(HI.out)).A, (xs[i]'(HI.out)).c⟩ = xs from List.set_getElem_self _)
  generalize plSaved xs i HI.out n D = zs at *
  generalize xs[i]'(HI.out) = x at *
  clear hr h1 h2 HR
  have hn : ¬ (i : Int) < 0 := by omega
  go_enter Try.func12, Try.ntmps12
  go_wp2_with fail
  refine HM.out.mono ?_
  rintro e w1 ⟨rfl, rfl⟩
  clear HM
  cases his : x.f.is with
  | false =>
    rw [his] at c0
    have HQ2 := Lib.hid (HQ.out.trans (if_pos (by rw [his]; rfl)))
    go_wp2
    go_ret
    rw [HQ2.out]
    exact ⟨rfl, PolR.same H.out⟩
  | true =>
    rw [his] at c0
    by_cases hp : 0 < x.f.pins
    · have HQ2 := Lib.hid (HQ.out.trans (if_pos (by rw [his]; simpa using hp)))
      clear HQ his
      go_wp2
      go_ret
      rw [HQ2.out]
      exact ⟨rfl, PolR.same H.out⟩
    · have HQ2 := Lib.hid (HQ.out.trans (if_neg (by rw [his]; simpa using hp)))
      have hq2 := HQ2.out
      replace hq2 : R = (if (plSave x.f n D).1 = 0 then (0, ⟨(xs.map (·.f)).set i frm0, hand, (plSave x.f n D).2.2⟩) else ((plSave x.f n D).1, ⟨xs.map (·.f), hand, (plSave x.f n D).2.2⟩)) := hq2
      have HQ3 := Lib.hid hq2
      clear HQ HQ2 hq2 his
      generalize plSave x.f n D = sv at *
      obtain ⟨er, f2, D2⟩ := sv
      go_wp2_with fail
      refine HSV.out.mono ?_
      rintro e wb ⟨rfl, F2, hp2, hin, hts⟩
      have HPB := Lib.hid hp2
      have HIN := Lib.hid hin
      have HTB := Lib.hid (show TS (gp :: gf :: F) w wb from hts.more (fun x hx => List.mem_cons_of_mem _ hx))
      clear hp2 hin hts HSV c0 c1 c2 c3 c4 c5 p0 p1 p2
      try simp only at HPS
      try simp only at HPF
      by_cases he : er = 0
      · subst he
        have hq2 := HQ3.out.trans (if_pos rfl)
        obtain ⟨hst, hpw, hmp⟩ := HPB.out.zeroF i (by rw [HPS.out, List.length_set]; exact HI.out)
        have hzz : zs.set i frx0 = xs.set i frx0 := by rw [HPS.out, List.set_set]
        rw [hzz] at hst hpw hmp
        have HP := Lib.hid hpw
        have HT := Lib.hid (HTB.out.then (TS.row (gp :: gf :: F) gf wb (frFlat (xs.set i frx0)).toArray (by simp)))
        have HQ4 := Lib.hid (show R = (0, plOf (xs.set i frx0) hand D2) from hq2.trans (by unfold plOf; rw [List.map_set]; rfl))
        generalize xs.set i frx0 = ys at *
        generalize wb.setRow gf (frFlat ys).toArray = w3 at *
        clear hq2 hpw hmp hzz HPB HTB H HPS HPF HYS
        go_wp2_with (refine wpList_store_by rfl _ _ _ rfl _ hst ?_)
        clear hst
        go_wp2
        go_ret
        rw [HQ4.out]
        exact ⟨rfl, PolR.of2 HP.out HIN.out HT.out⟩
      · have heb : (er != 0) = true := by simpa using he
        have HQ4 := Lib.hid (HQ3.out.trans (if_neg he))
        have HZY := Lib.hid (show zs = xs from by rw [HPS.out, HPF.out he]; exact HYS.out)
        clear he
        go_wp2
        go_ret
        rw [HQ4.out]
        exact ⟨rfl, F2, xs, by have h := HPB.out; rw [HZY.out] at h; exact h, rfl, HIN.out, HTB.out⟩
end
end Go.Proofs.Ytoidlmhebnlnbaa
