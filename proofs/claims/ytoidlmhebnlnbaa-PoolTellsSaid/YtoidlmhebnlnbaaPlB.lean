/- pool: the walk through save. -/
import Derived.Test.YtoidlmhebnlnbaaPlA
set_option linter.unusedVariables false
set_option linter.unusedSimpArgs false
namespace Go.Proofs.Ytoidlmhebnlnbaa
open Go.ChangeShapes Go.WideShapes Go.ChangeAt Go.RowKit
attribute [local go_sem] nb_nonneg nb_lt8 nb_lt64
set_option maxRecDepth 100000

theorem TS.more {F F' : List Nat} {w w' : World} (h : TS F w w') (hs : ∀ x ∈ F, x ∈ F') : TS F' w w' := ⟨h.os, h.tape, h.output, h.size, fun k hk hn => h.block k hk (fun m => hn (hs k m))⟩
section
variable {w : World} {F : List Nat} {g n gp gf hand : Nat} {xs : List FrX} {D : DiskSt}
/-- What is returned of a save: the frame may be clean now. -/
def plSaved (xs : List FrX) (i : Nat) (hi : i < xs.length) (n : Nat) (D : DiskSt) : List FrX := xs.set i ⟨(plSave xs[i].f n D).2.1, xs[i].A, xs[i].c⟩
theorem plSave_b (f : Frm) (n : Nat) (D : DiskSt) : (plSave f n D).2.1.b = f.b := by
  unfold plSave
  split
  · split <;> rfl
  · rfl
theorem plSave_off (f : Frm) (n : Nat) (D : DiskSt) (h : (plSave f n D).1 ≠ 0) : (plSave f n D).2.1 = f := by
  unfold plSave at h ⊢
  split at h
  · rename_i hc
    rw [if_pos hc]
    split at h
    · exact absurd rfl h
    · rename_i hs; rw [if_neg hs]
  · exact absurd rfl h
theorem set_getElem_self' (xs : List FrX) (i : Nat) (hi : i < xs.length) : xs.set i xs[i] = xs := List.set_getElem_self hi
set_option maxHeartbeats 1000000 in
theorem pl_save (h : Pol w F g n gp gf xs hand D) (i : Nat) (hi : i < xs.length) :
    Calls Try.prog 32 #[.pointer (some ⟨gp, 0, none⟩), .pointer (some ⟨gf, i * 6, none⟩)] w fun e w' => e = .returned (.int .i64 (plSave xs[i].f n D).1) ∧
      ∃ F', Pol w' F' g n gp gf (plSaved xs i hi n D) hand (plSave xs[i].f n D).2.2 ∧ (∀ x ∈ F', x ∈ F ∨ w.heap.size ≤ x) ∧ TS (gf :: F) w w' := by
  obtain ⟨p0, p1, p2⟩ := h.pcells
  obtain ⟨c0, c1, c2, c3, c4, c5⟩ := h.cells i hi
  have H := Lib.hid h
  have HS := Lib.hid (show plSaved xs i hi n D = xs.set i ⟨(plSave xs[i].f n D).2.1, xs[i].A, xs[i].c⟩ from rfl)
  have HSF := Lib.hid (List.set_getElem_self hi)
  have HXD := Lib.hid (h.rd xs[i] (List.getElem_mem hi))
  have HXB := Lib.hid (h.bd xs[i] (List.getElem_mem hi))
  have HS1 := Lib.hid (fun (W : World) (F' : List Nat) (D' : DiskSt) (h' : Pol W F' g n gp gf xs hand D') (f : Frm) (hx : frCs ⟨f, xs[i].A, xs[i].c⟩ = (frCs xs[i]).set 3 (.bool false)) (hb : f.b = xs[i].f.b) => h'.set1 i hi 3 (by omega) (.bool false) f hx hb)
  have HFZ := Lib.hid (fun (W : World) (F' : List Nat) (D' : DiskSt) (h' : Pol W F' g n gp gf xs hand D') => And.intro (h'.cells i hi).2.2.2.1 (frozen_row _ h'.frow (i * 6 + 3)))
  generalize plSaved xs i hi n D = ys at *
  generalize hx : xs[i] = x at *
  obtain ⟨⟨is, pg, pins, dirty, used, b⟩, A, c⟩ := x
  simp only at c0 c1 c2 c3 c4 c5
  clear h hx
  cases is with
  | false =>
    have HR := Lib.hid (show plSave ⟨false, pg, pins, dirty, used, b⟩ n D = (0, ⟨false, pg, pins, dirty, used, b⟩, D) from rfl)
    go_enter Try.func32, Try.ntmps32
    go_wp2
    go_ret
    refine ⟨by rw [HR.out]; rfl, F, ?_, fun y hy => .inl hy, TS.refl _ _⟩
    rw [HS.out, HR.out, HSF.out]
    exact H.out
  | true =>
    cases dirty with
    | false =>
      have HR := Lib.hid (show plSave ⟨true, pg, pins, false, used, b⟩ n D = (0, ⟨true, pg, pins, false, used, b⟩, D) from rfl)
      go_enter Try.func32, Try.ntmps32
      go_wp2
      go_ret
      refine ⟨by rw [HR.out]; rfl, F, ?_, fun y hy => .inl hy, TS.refl _ _⟩
      rw [HS.out, HR.out, HSF.out]
      exact H.out
    | true =>
      have HR := Lib.hid (show plSave ⟨true, pg, pins, true, used, b⟩ n D = (if (sdSave D n pg b).1 = 0 then (0, ⟨true, pg, pins, false, used, b⟩, (sdSave D n pg b).2) else ((sdSave D n pg b).1, ⟨true, pg, pins, true, used, b⟩, (sdSave D n pg b).2)) from rfl)
      generalize hps : plSave ⟨true, pg, pins, true, used, b⟩ n D = ps at *
      have HC := Lib.hid (fun (W : World) (h' : Dsk W F g n D) (hr : Rd W A b) => pg_Save h' pg A c b HXB.out HXD.out.2.1 hr (fun ad ha => (HXD.out.2.2.2 ad ha).2.1))
      generalize sdSave D n pg b = sv at *
      obtain ⟨er, D2⟩ := sv
      clear hps
      go_enter Try.func32, Try.ntmps32
      go_upto_region 3 with fail
      obtain ⟨W0, hW0⟩ : ∃ W0 : World, W0 = w := ⟨_, rfl⟩
      rw [← hW0]
      refine region_sch (E := TS (F)) ((0, true) :: (1, true) :: (2, true) :: (3, true) :: (4, true) :: (5, true) :: (6, true) :: (7, true) :: (8, true) :: (9, true) :: (10, true) :: (11, true) :: (12, true) :: (13, false) :: (14, true) :: []) (by kernel_rfl) (TS.refl _) (fun _ _ _ h k => TS.then h k) (fun _ _ d _ _ h => by cases d <;> exact h) (by kernel_rfl) ?_
      intro ops hops0
      have hops := Lib.hid hops0
      clear hops0
      have HF : TS (F) W0 W0.drew := TS.of (FB.refl _).drew
      have HD : FB W0 W0.drew := (FB.refl _).drew
      generalize W0.drew = wF0 at *
      rw [hW0] at HD
      have HQ := Lib.hid (H.out.fb HD)
      have HFQ := Lib.hid HD
      have HNP := Lib.hid HQ.out.ne.2.1
      have HNF := Lib.hid HQ.out.ne.2.2
      have K0 := Lib.hid (FB.cell HD p0)
      have K1 := Lib.hid (FB.cell HD c1)
      have K5 := Lib.hid (FB.cell HD c5)
      clear hW0 HD HF p0 p1 p2 c0 c1 c2 c3 c4 c5
      repeat (refine sch_take (o := ?_) (v := ?_) (a' := ?_) (at_of hops.out ?_) ?_ (fun W hW => ?_) ?_ ?_; rotate_left 3; (focus (simp only [List.getElem?_toArray, List.getElem?_cons_zero, List.getElem?_cons_succ]; rfl)); (focus (rw [hops.out]; rfl)); (focus (have u0 := TS.cell hW K0.out HNP.out; have u1 := TS.cell hW K1.out HNF.out; have u5 := TS.cell hW K5.out HNF.out; go_simp; with_reducible rfl)); (focus (simp only [Act.put, List.setIfInBounds_toArray, List.set_cons_zero, List.set_cons_succ]; rfl)))
      have HCC := Lib.hid (HC.out wF0 HQ.out.dsk (HFQ.out.rd HXD.out.1))
      (refine sch_call (o := ?_) (f := ?_) (args := ?_) (at_of hops.out ?_) ?_ ?_ ?_; rotate_left 3; (focus (simp only [List.getElem?_toArray, List.getElem?_cons_zero, List.getElem?_cons_succ]; rfl)); (focus (rw [hops.out]; rfl)); (focus (go_simp; constructor <;> with_reducible rfl)); (first | ((with_reducible refine HCC.out.mono ?_); rintro e w2 ⟨rfl, hres⟩; obtain ⟨F2, hp2, hin, hts⟩ := HQ.out.diskR hres; refine ⟨_, rfl, hts, ?_⟩; intro a' ha'; simp only [Act.put, List.setIfInBounds_toArray, List.set_cons_zero, List.set_cons_succ] at ha'; subst ha')))
      have HP2 := Lib.hid hp2
      have HIN := Lib.hid (show ∀ x ∈ F2, x ∈ F ∨ w.heap.size ≤ x from fun x hx => (hin x hx).imp id (fun h => Nat.le_trans HFQ.out.le h))
      have HTS := Lib.hid (show TS F w w2 from (TS.of HFQ.out).then hts)
      clear hres hp2 hin hts HCC HC K0 K1 K5 HNP HNF HQ HFQ
      repeat (refine sch_take (o := ?_) (v := ?_) (a' := ?_) (at_of hops.out ?_) ?_ (fun W hW => ?_) ?_ ?_; rotate_left 3; (focus (simp only [List.getElem?_toArray, List.getElem?_cons_zero, List.getElem?_cons_succ]; rfl)); (focus (rw [hops.out]; rfl)); (focus (go_simp; with_reducible rfl)); (focus (simp only [Act.put, List.setIfInBounds_toArray, List.set_cons_zero, List.set_cons_succ]; rfl)))
      refine sch_done ?_
      clear hops
      by_cases he : er = 0
      · subst he
        have HRR := Lib.hid (HR.out.trans (if_pos rfl))
        obtain ⟨c3, fz⟩ := HFZ.out _ _ _ HP2.out
        have hne := HP2.out.lt
        have HE := Lib.hid (HS1.out _ _ _ HP2.out ⟨true, pg, pins, false, used, b⟩ rfl rfl)
        have HTE := Lib.hid (show TS (gf :: F) w (w2.setCell ⟨gf, i * 6 + 3, none⟩ (.bool false)) from (HTS.out.more (fun x hx => List.mem_cons_of_mem _ hx)).then (TS.tb (TB.set (g := gf) w2 (i * 6 + 3) (.bool false)) (by simp)))
        clear hne
        go_wp2
        go_ret
        refine ⟨by rw [HRR.out]; rfl, F2, ?_, HIN.out, HTE.out⟩
        rw [HS.out, HRR.out]
        exact HE.out
      · have heb : (er != 0) = true := by simpa using he
        have HRR := Lib.hid (HR.out.trans (if_neg he))
        clear he
        go_wp2
        go_ret
        refine ⟨by rw [HRR.out]; rfl, F2, ?_, HIN.out, HTS.out.more (fun x hx => List.mem_cons_of_mem _ hx)⟩
        rw [HS.out, HRR.out, HSF.out]
        exact HP2.out
end
end Go.Proofs.Ytoidlmhebnlnbaa
