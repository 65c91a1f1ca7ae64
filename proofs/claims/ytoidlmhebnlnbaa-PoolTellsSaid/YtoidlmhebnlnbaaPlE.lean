/- pool: the walks through Get, Pin, Unpin, Evict, Drop, Put. -/
import Derived.Test.YtoidlmhebnlnbaaPlD
set_option linter.unusedVariables false
set_option linter.unusedSimpArgs false
namespace Go.Proofs.Ytoidlmhebnlnbaa
open Go.ChangeShapes Go.WideShapes Go.ChangeAt Go.RowKit
attribute [local go_sem] nb_nonneg nb_lt8 nb_lt64
set_option maxRecDepth 100000

section
variable {w w' w1 w2 : World} {F : List Nat} {g n gp gf hand : Nat} {xs : List FrX} {D : DiskSt} {st st' : PlSt}
theorem Pol.setX (h : Pol w F g n gp gf xs hand D) (i : Nat) (hi : i < xs.length) (j : Nat) (hj : j < 6) (v : Value) (x : FrX) (hx : frCs x = (frCs xs[i]).set j v)
    (hr : Rd w x.A x.f.b ∧ x.f.b.length ≤ x.c ∧ x.c ≤ maxLen ∧ (∀ ad, x.A = some ad → ad.block < w.heap.size ∧ ad.block ∉ F ∧ ad.block ≠ gp ∧ ad.block ≠ gf) ∧ x.f.b.length ≤ 100000000000) :
    Pol (w.setCell ⟨gf, i * 6 + j, none⟩ v) F g n gp gf (xs.set i x) hand D := by
  refine h.frame i _ (TB.set (g := gf) w (i * 6 + j) v) ?_ hr
  rw [heap_setCell_same _ gf (i * 6 + j) _ _ _ h.frow, ← frFlat_set1 xs i hi j hj v _ hx]
  simp
theorem Pol.setP (h : Pol w F g n gp gf xs hand D) (i : Nat) (hi : i < xs.length) (v : Int) :
    ∃ ys, Pol (w.setCell ⟨gf, i * 6 + 2, none⟩ (.int .i64 v)) F g n gp gf ys hand D ∧ ys.map (·.f) = (xs.map (·.f)).set i { ((xs.map (·.f)).getD i frm0) with pins := v } := by
  refine ⟨_, h.set1 i hi 2 (by omega) (.int .i64 v) { xs[i].f with pins := v } rfl rfl, ?_⟩
  rw [List.map_set, plGetD xs i hi]
/-- What is asked of the bytes of a frame. -/
def FrOk (w : World) (F : List Nat) (gp gf : Nat) (x : FrX) : Prop := Rd w x.A x.f.b ∧ x.f.b.length ≤ x.c ∧ x.c ≤ maxLen ∧ (∀ ad, x.A = some ad → ad.block < w.heap.size ∧ ad.block ∉ F ∧ ad.block ≠ gp ∧ ad.block ≠ gf) ∧ x.f.b.length ≤ 100000000000
theorem FrOk.tb {x : FrX} (h : FrOk w F gp gf x) (k : TB gf w w') : FrOk w' F gp gf x :=
  ⟨(TS.tb (F := [gf]) k (by simp)).rd h.1 (fun ad ha hm => (h.2.2.2.1 ad ha).2.2.2 (by simpa using hm)), h.2.1, h.2.2.1, fun ad ha => ⟨Nat.lt_of_lt_of_le (h.2.2.2.1 ad ha).1 k.le, (h.2.2.2.1 ad ha).2⟩, h.2.2.2.2⟩
/-- A frame's bytes are put: three cells. -/
theorem Pol.setBDU (h : Pol w F g n gp gf xs hand D) (i : Nat) (hi : i < xs.length) (A : Option Addr) (c : Nat) (b : List Byte) (hr : FrOk w F gp gf ⟨{ xs[i].f with b := b, dirty := true, used := true }, A, c⟩) :
    Pol (((w.setCell ⟨gf, i * 6 + 5, none⟩ (.slice A b.length c)).setCell ⟨gf, i * 6 + 3, none⟩ (.bool true)).setCell ⟨gf, i * 6 + 4, none⟩ (.bool true)) F g n gp gf (xs.set i ⟨{ xs[i].f with b := b, dirty := true, used := true }, A, c⟩) hand D := by
  have k1 : TB gf w (w.setCell ⟨gf, i * 6 + 5, none⟩ (.slice A b.length c)) := TB.set (g := gf) w _ _
  have h1 := h.setX i hi 5 (by omega) (.slice A b.length c) ⟨{ xs[i].f with b := b }, A, c⟩ rfl hr
  have i1 : i < (xs.set i ⟨{ xs[i].f with b := b }, A, c⟩).length := by rw [List.length_set]; exact hi
  have h2 := h1.setX i i1 3 (by omega) (.bool true) ⟨{ xs[i].f with b := b, dirty := true }, A, c⟩ (by rw [List.getElem_set_self]; rfl) (hr.tb k1)
  rw [List.set_set] at h2
  have i2 : i < (xs.set i ⟨{ xs[i].f with b := b, dirty := true }, A, c⟩).length := by rw [List.length_set]; exact hi
  have h3 := h2.setX i i2 4 (by omega) (.bool true) ⟨{ xs[i].f with b := b, dirty := true, used := true }, A, c⟩ (by rw [List.getElem_set_self]; rfl) (hr.tb (k1.trans (TB.set (g := gf) _ _ _)))
  rw [List.set_set] at h3
  exact h3
/-- What Get returns. -/
def plGetB (n : Nat) (st : PlSt) (k : Int) : List Byte := match (plGet n st k).1.1 with | some i => ((plGet n st k).2.fs.getD i frm0).b | none => []
theorem plGet_code (n : Nat) (st : PlSt) (k : Int) : ((plGet n st k).1.1 = none → (plGet n st k).1.2 ≠ 0) ∧ ((plGet n st k).1.1 ≠ none → (plGet n st k).1.2 = 0) := by
  by_cases ho : pgOut n k
  · rw [plGet_out ho]; exact ⟨fun _ => by show (2 : Int) ≠ 0; decide, fun h => absurd rfl h⟩
  · cases hf : plFind st.fs k with
    | some i => rw [plGet_hit ho hf]; exact ⟨(fun h => by cases h), fun _ => rfl⟩
    | none =>
      have hc := plRoom_code n st
      rcases hr : plRoom n st with ⟨⟨so, se⟩, st1⟩
      rw [hr] at hc
      cases so with
      | none => rw [plGet_full ho hf hr]; exact hc
      | some i =>
        rw [plGet_load ho hf hr]
        split
        · exact ⟨(fun h => by cases h), fun _ => rfl⟩
        · rename_i h; exact ⟨fun _ => h, fun h => absurd rfl h⟩
theorem plGet_len (n : Nat) (st : PlSt) (k : Int) : (plGet n st k).2.fs.length = st.fs.length := by
  by_cases ho : pgOut n k
  · rw [plGet_out ho]
  · cases hf : plFind st.fs k with
    | some i => rw [plGet_hit ho hf]; simp
    | none =>
      have hc := plRoom_len n st
      rcases hr : plRoom n st with ⟨⟨so, se⟩, st1⟩
      rw [hr] at hc
      cases so with
      | none => rw [plGet_full ho hf hr]; exact hc
      | some i =>
        rw [plGet_load ho hf hr]
        split
        · simpa using hc
        · exact hc
set_option maxHeartbeats 1000000 in
theorem pl_Get (h : Pol w F g n gp gf xs hand D) (k : Int) :
    Calls Try.prog 9 #[.pointer (some ⟨gp, 0, none⟩), .int .i64 k] w fun e w' => ∃ A c, e = .returned (.tuple #[.slice A (plGetB n (plOf xs hand D) k).length c, .int .i64 (plGet n (plOf xs hand D) k).1.2]) ∧ Rd w' A (plGetB n (plOf xs hand D) k) ∧ (∀ ad, A = some ad → w.heap.size ≤ ad.block) ∧ PolR w F g n gp gf (plGet n (plOf xs hand D) k).2 w' := by
  have HM := Lib.hid (pl_made h)
  have HG := Lib.hid (pl_get h k)
  have HC := Lib.hid (plGet_code n (plOf xs hand D) k)
  have HLN := Lib.hid (plGet_len n (plOf xs hand D) k)
  obtain ⟨B, hB⟩ : ∃ B, B = plGetB n (plOf xs hand D) k := ⟨_, rfl⟩
  rw [← hB]
  unfold plGetB at hB
  have HB := Lib.hid hB
  clear h hB
  generalize plGet n (plOf xs hand D) k = R at *
  obtain ⟨⟨so, se⟩, st1⟩ := R
  go_enter Try.func9, Try.ntmps9
  go_wp2_with fail
  refine HM.out.mono ?_
  rintro e w1 ⟨rfl, rfl⟩
  go_wp2_with fail
  refine HG.out.mono ?_
  rintro e w1 ⟨rfl, hres, hlt⟩
  clear HM HG
  cases so with
  | none =>
    have hse : (se != 0) = true := by have := HC.out.1 rfl; simpa using this
    have HR := Lib.hid hres
    have HBB := Lib.hid (show B = [] from HB.out)
    clear hres hlt HC HB
    simp only [plPtr]
    go_wp2
    go_ret2
    rw [HBB.out]
    exact ⟨none, 0, rfl, Rd.nil _ _, (fun ad ha => by cases ha), HR.out⟩
  | some i =>
    have hse : se = 0 := HC.out.2 (by simp)
    subst hse
    obtain ⟨F1, ys, hp1, hys, hin, hts⟩ := hres
    have HI := Lib.hid (show i < xs.length from hlt i rfl)
    have HP1 := Lib.hid hp1
    have HR := Lib.hid (show PolR w F g n gp gf st1 w1 from ⟨F1, ys, hp1, hys, hin, hts⟩)
    have HIY := Lib.hid (show i < ys.length from by have h1 := HLN.out; simp only [← hys, plOf, List.length_map] at h1; rw [h1]; exact HI.out)
    have hbb : B = (st1.fs.getD i frm0).b := HB.out
    rw [← hys, plGetD ys i HIY.out] at hbb
    have HBB := Lib.hid hbb
    obtain ⟨c0, c1, c2, c3, c4, c5⟩ := hp1.cells i HIY.out
    have HX := Lib.hid (hp1.rd (ys[i]'(HIY.out)) (List.getElem_mem HIY.out))
    have HXB := Lib.hid (hp1.bd (ys[i]'(HIY.out)) (List.getElem_mem HIY.out))
    clear hp1 hys hin hlt HB hbb HC HLN HP1
    generalize ys[i]'(HIY.out) = x at *
    have HTS := Lib.hid hts.size
    clear hts
    have HCL := Lib.hid (sl_Clone x.f.b x.A _ x.c w1 rfl (by have := HXB.out; omega) HX.out.1)
    simp only [plPtr]
    go_wp2_with fail
    refine HCL.out.mono ?_
    rintro e w2 ⟨A, c, rfl, ho, hb⟩
    have HO := Lib.hid ho.info
    have HBL := Lib.hid ho.bnd
    have HBW := Lib.hid hb
    clear HCL HX HXB ho hb c0 c1 c2 c3 c4 c5
    go_wp2
    go_ret2
    rw [HBB.out]
    refine ⟨A, c, rfl, HO.out.2.2.1, fun ad ha => Nat.le_trans HTS.out (HBL.out _ (by rw [ha]; rfl)), ?_⟩
    obtain ⟨F2, zs, q1, q2, q3, q4⟩ := HR.out
    exact ⟨F2, zs, q1.fb HBW.out, q2, q3, q4.then (TS.of HBW.out)⟩
set_option maxHeartbeats 1000000 in
theorem pl_Pin (h : Pol w F g n gp gf xs hand D) (k : Int) :
    Calls Try.prog 17 #[.pointer (some ⟨gp, 0, none⟩), .int .i64 k] w fun e w' => e = .returned (.int .i64 (plPin n (plOf xs hand D) k).1) ∧ PolR w F g n gp gf (plPin n (plOf xs hand D) k).2 w' := by
  have HM := Lib.hid (pl_made h)
  have HG := Lib.hid (pl_get h k)
  have HC := Lib.hid (plGet_code n (plOf xs hand D) k)
  have HLN := Lib.hid (plGet_len n (plOf xs hand D) k)
  unfold plPin
  clear h
  generalize plGet n (plOf xs hand D) k = R at *
  obtain ⟨⟨so, se⟩, st1⟩ := R
  go_enter Try.func17, Try.ntmps17
  go_wp2_with fail
  refine HM.out.mono ?_
  rintro e w1 ⟨rfl, rfl⟩
  go_wp2_with fail
  refine HG.out.mono ?_
  rintro e w1 ⟨rfl, hres, hlt⟩
  clear HM HG
  cases so with
  | none =>
    have hse : (se == 0) = false := by have := HC.out.1 rfl; simpa using this
    have HR := Lib.hid hres
    clear hres hlt HC
    simp only [plPtr]
    go_wp2
    go_ret
    exact ⟨rfl, HR.out⟩
  | some i =>
    have hse : se = 0 := HC.out.2 (by simp)
    subst hse
    obtain ⟨F1, ys, hp1, hys, hin, hts⟩ := hres
    have HI := Lib.hid (show i < xs.length from hlt i rfl)
    have HP1 := Lib.hid hp1
    have HIN := Lib.hid hin
    have HTS := Lib.hid hts
    have HYS := Lib.hid hys
    have HIY := Lib.hid (show i < ys.length from by have h1 := HLN.out; simp only [← hys, plOf, List.length_map] at h1; rw [h1]; exact HI.out)
    obtain ⟨c0, c1, c2, c3, c4, c5⟩ := hp1.cells i HIY.out
    have fz := hp1.fz (i * 6 + 2)
    obtain ⟨v, hv⟩ : ∃ v, IntKind.i64.wrap ((ys[i]'(HIY.out)).f.pins + 1) = v := ⟨_, rfl⟩
    obtain ⟨zs, hq, hzs⟩ := hp1.setP i HIY.out v
    have HQ := Lib.hid hq
    have HZS := Lib.hid (show zs.map (·.f) = st1.fs.set i { (st1.fs.getD i frm0) with pins := IntKind.i64.wrap ((st1.fs.getD i frm0).pins + 1) } from by rw [hzs, ← hys, plGetD ys i HIY.out, hv])
    have HT := Lib.hid (show TS (gp :: gf :: F) w (w1.setCell ⟨gf, i * 6 + 2, none⟩ (.int .i64 v)) from hts.then (TS.tb (TB.set (g := gf) w1 (i * 6 + 2) _) (by simp)))
    clear hp1 hys hin hlt HC HLN hq hzs hts HP1
    generalize ys[i]'(HIY.out) = x at *
    simp only [plPtr]
    go_wp2
    go_ret
    exact ⟨rfl, F1, zs, HQ.out, HZS.out, HIN.out, HT.out⟩
set_option maxHeartbeats 1000000 in
theorem pl_Unpin (h : Pol w F g n gp gf xs hand D) (k : Int) :
    Calls Try.prog 11 #[.pointer (some ⟨gp, 0, none⟩), .int .i64 k] w fun e w' => e = .returned (.int .i64 (plUnpin (plOf xs hand D) k).1) ∧ PolR w F g n gp gf (plUnpin (plOf xs hand D) k).2 w' := by
  have HM := Lib.hid (pl_made h)
  have HFN := Lib.hid (pl_find h k)
  have H := Lib.hid h
  obtain ⟨R, hR⟩ : ∃ R, R = plUnpin (plOf xs hand D) k := ⟨_, rfl⟩
  rw [← hR]
  unfold plUnpin at hR
  have HR := Lib.hid hR
  clear h hR
  go_enter Try.func11, Try.ntmps11
  go_wp2_with fail
  refine HM.out.mono ?_
  rintro e w1 ⟨rfl, rfl⟩
  go_wp2_with fail
  refine HFN.out.mono ?_
  rintro e w1 ⟨rfl, rfl⟩
  clear HFN HM
  cases hf : plFind (xs.map (·.f)) k with
  | none =>
    have hq := HR.out
    rw [show plFind (plOf xs hand D).fs k = none from hf] at hq
    have HQ := Lib.hid (show R = (6, plOf xs hand D) from hq)
    clear hf HR hq
    simp only [plPtr]
    go_wp2
    go_ret
    rw [HQ.out]
    exact ⟨rfl, PolR.same H.out⟩
  | some i =>
    have hi : i < xs.length := by have := (plFind_lt hf).1; rwa [List.length_map] at this
    have HI := Lib.hid hi
    have hr := HR.out
    rw [show plFind (plOf xs hand D).fs k = some i from hf] at hr
    simp only at hr
    rw [show (plOf xs hand D).fs.getD i frm0 = (xs[i]'(HI.out)).f from plGetD xs i HI.out] at hr
    obtain ⟨c0, c1, c2, c3, c4, c5⟩ := H.out.cells i HI.out
    have fz := H.out.fz (i * 6 + 2)
    obtain ⟨v, hv⟩ : ∃ v, IntKind.i64.wrap ((xs[i]'(HI.out)).f.pins - 1) = v := ⟨_, rfl⟩
    obtain ⟨zs, hq, hzs⟩ := H.out.setP i HI.out v
    rw [hv] at hr
    have HQ := Lib.hid hq
    have HZS := Lib.hid (show zs.map (·.f) = (xs.map (·.f)).set i { (xs[i]'(HI.out)).f with pins := v } from by rw [hzs, plGetD xs i HI.out])
    have HT := Lib.hid (show TS (gp :: gf :: F) w (w.setCell ⟨gf, i * 6 + 2, none⟩ (.int .i64 v)) from TS.tb (TB.set (g := gf) w (i * 6 + 2) _) (by simp))
    have HR2 := Lib.hid hr
    clear hf hi hq hzs HR hr
    generalize xs[i]'(HI.out) = x at *
    by_cases hp : x.f.pins = 0
    · have hpb : (x.f.pins == 0) = true := by simpa using hp
      have HR3 := Lib.hid (HR2.out.trans (if_pos hp))
      clear hp HR2 HQ HZS HT
      simp only [plPtr]
      go_wp2
      go_ret
      rw [HR3.out]
      exact ⟨rfl, PolR.same H.out⟩
    · have hpb : (x.f.pins == 0) = false := by simpa using hp
      have HR3 := Lib.hid (HR2.out.trans (if_neg hp))
      clear hp HR2 H
      simp only [plPtr]
      go_wp2
      go_ret
      rw [HR3.out]
      exact ⟨rfl, F, zs, HQ.out, HZS.out, fun _ hx => .inl hx, HT.out⟩
end
end Go.Proofs.Ytoidlmhebnlnbaa
