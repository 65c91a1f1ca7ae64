/- Sectors: the walk through tallymankit.Ints. -/
import Derived.Test.YtoidlmhebnlnbaaDskI
set_option linter.unusedVariables false
set_option linter.unusedSimpArgs false
namespace Go.Proofs.Ytoidlmhebnlnbaa
open Go.ChangeShapes Go.WideShapes Go.ChangeAt Go.RowKit Go.MapKept

theorem RdV.icell {w : World} {A : Option Addr} {zs : List Int} (h : RdV w A (zs.map (.int .i64))) {j : Nat} (hj : j < zs.length) : ∃ b o, A = some ⟨b, o, none⟩ ∧ w.cell? ⟨b, o + j, none⟩ = some (.int .i64 zs[j]) := by
  obtain ⟨b, o, e, -, h2⟩ := RdV.form h (by simp; omega)
  have := h2 j (by simpa using hj)
  rw [List.getElem_map] at this
  exact ⟨b, o, e, this⟩
set_option maxRecDepth 100000 in
set_option maxHeartbeats 1000000 in
theorem kit_Ints (zs ys : List Int) (A B : Option Addr) (n m ca cb : Nat) (w : World) (hn : n = zs.length) (hm : m = ys.length) (hz : zs.length ≤ 1000000000) (hy : ys.length ≤ 1000000000) (hra : RdV w A (zs.map (.int .i64))) (hrb : RdV w B (ys.map (.int .i64))) :
    Calls Try.prog 20 #[.slice A n ca, .slice B m cb] w fun e w' => e = .returned (.bool (decide (zs = ys))) ∧ FB w w' := by
  subst hn hm
  have HRA := Lib.hid hra
  have HRB := Lib.hid hrb
  by_cases hl : zs.length = ys.length
  · have HL := Lib.hid hl
    have hli : (zs.length : Int) = (ys.length : Int) := by omega
    have hne : ((zs.length : Int) != (ys.length : Int)) = false := by rw [hli]; simp
    generalize hC : decide (zs = ys) = C
    have HC := Lib.hid hC
    clear hra hrb hl hli hC
    go_enter Try.func20, Try.ntmps20
    go_wp2
    go_loopw [5] (fun i wr => ∃ j : Nat, j ≤ zs.length ∧ i = .int .i64 j ∧ Hid (zs.take j = ys.take j) ∧ Hid (FB w wr)) (fun i _ => zs.length - (intOf i).toNat)
    case atStart => exact ⟨0, by omega, rfl, by rfl, FB.refl _⟩
    case round =>
      obtain ⟨j, hj, rfl, HT, HF0⟩ := hrel
      by_cases hlt : j < zs.length
      · have hjy : j < ys.length := by have := HL.out; omega
        have hjx : (j : Int) < (zs.length : Int) := by omega
        have hjz : (j : Int) < (ys.length : Int) := by omega
        obtain ⟨a, oa, rfl, -⟩ := RdV.icell HRA.out hlt
        obtain ⟨b, ob, rfl, -⟩ := RdV.icell HRB.out hjy
        have HRA1 := Lib.hid (HF0.out.rdV HRA.out)
        have HRB1 := Lib.hid (HF0.out.rdV HRB.out)
        go_wp2_with fail
        obtain ⟨W0, hW0⟩ : ∃ W0 : World, W0 = wr := ⟨_, rfl⟩
        subst hW0
        refine region_sch (E := FB) ((0, true) :: (1, true) :: (2, true) :: (3, true) :: (4, true) :: (5, true) :: (6, true) :: (7, true) :: (8, true) :: []) (by kernel_rfl) FB.refl fb_trans (fun _ _ d _ _ h => by cases d <;> exact h) (by kernel_rfl) ?_
        intro ops hops0
        have hops := Lib.hid hops0
        clear hops0
        have HF : FB W0 W0.drew := (FB.refl _).drew
        generalize W0.drew = wF at *
        have HRA2 := Lib.hid (FB.rdV HF HRA1.out)
        have HRB2 := Lib.hid (FB.rdV HF HRB1.out)
        repeat (refine sch_take (o := ?_) (v := ?_) (a' := ?_) (at_of hops.out ?_) ?_ (fun W hW => ?_) ?_ ?_; rotate_left 3; (focus (simp only [List.getElem?_toArray, List.getElem?_cons_zero, List.getElem?_cons_succ]; rfl)); (focus (rw [hops.out]; rfl)); (focus (obtain ⟨a1, oa1, e1, u1⟩ := RdV.icell (FB.rdV hW HRA2.out) hlt; cases e1; obtain ⟨b1, ob1, e2, u2⟩ := RdV.icell (FB.rdV hW HRB2.out) hjy; cases e2; go_simp; with_reducible rfl)); (focus (simp only [Act.put, List.setIfInBounds_toArray, List.set_cons_zero, List.set_cons_succ]; rfl)))
        refine sch_done ?_
        have HF3 := Lib.hid (HF0.out.trans HF)
        have htk : zs.take (j + 1) = zs.take j ++ [zs[j]] := by rw [List.take_succ_eq_append_getElem hlt]
        have htk2 : ys.take (j + 1) = ys.take j ++ [ys[j]] := by rw [List.take_succ_eq_append_getElem hjy]
        by_cases he : zs[j] = ys[j]
        · have hne2 : (zs[j] != ys[j]) = false := by simp [he]
          have HT2 := Lib.hid (show zs.take (j + 1) = ys.take (j + 1) by rw [htk, htk2, HT.out, he])
          clear htk htk2 he hops
          go_wp2
          go_roundw
          case rel => exact ⟨j + 1, by omega, by go_num, HT2.out, HF3.out⟩
          case measure => simp [intOf]; omega
        · have hne2 : (zs[j] != ys[j]) = true := by simp [he]
          have HX := Lib.hid (show C = false from by rw [← HC.out]; simp only [decide_eq_false_iff_not]; intro e; subst e; exact he rfl)
          clear htk htk2 he hops
          go_wp2
          go_ret
          exact ⟨by rw [HX.out]; rfl, HF3.out⟩
      · obtain rfl : j = zs.length := by omega
        have HX := Lib.hid (show C = true from by rw [← HC.out]; simp only [decide_eq_true_eq]; have := HT.out; rw [List.take_length, HL.out, List.take_length] at this; exact this)
        have hjz : ¬ ((zs.length : Nat) : Int) < (zs.length : Int) := by omega
        go_wp2
        go_ret
        exact ⟨by rw [HX.out]; rfl, HF0.out⟩
  · have hne : ((zs.length : Int) != (ys.length : Int)) = true := by simp; omega
    rw [show decide (zs = ys) = false from by simp only [decide_eq_false_iff_not]; intro e; exact hl (by rw [e])]
    clear hra hrb hl
    go_enter Try.func20, Try.ntmps20
    go_wp2
    go_ret
    exact ⟨rfl, FB.refl _⟩
end Go.Proofs.Ytoidlmhebnlnbaa
