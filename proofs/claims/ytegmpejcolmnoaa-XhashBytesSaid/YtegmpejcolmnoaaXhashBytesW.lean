/- The walk of XhashBytes. -/
import Derived.Test.YtegmpejcolmnoaaXhW
import Derived.Test.YtegmpejcolmnoaaXhM
import Derived.Test.YtegmpejcolmnoaaSched
set_option linter.unusedVariables false
set_option linter.unusedSimpArgs false
namespace Go.Proofs.Ytegmpejcolmnoaa
open Go.ChangeShapes Go.WideShapes Go.ChangeAt Go.RowKit
theorem nb_tmod256 (x : BitVec 64) : (nb x).tmod 256 = nb (x.setWidth 8) := by rw [Int.tmod_eq_emod_of_nonneg (nb_nonneg x), nb_mod8]
attribute [local go_sem] nb_tmod256 nb_beq nb_nonneg nb_lt64 nb_mod8

theorem word8_nil (a : BitVec 64) (w : World) : Calls Try.prog 32 #[.slice none 0 0, .int .u64 (nb a), .int .i64 8] w fun e w' => ∃ A c, e = .returned (.slice A 8 c) ∧ 8 ≤ c ∧ c ≤ maxLen ∧ Rd w' A (oword 8 a) ∧ FB w w' := by
  refine (oct_Word [] none 0 0 a 8 w rfl (by simp) (by simp [maxLen]) (by simp) (Rd.nil _ _)).mono fun e w' ⟨v, h1, h2, h3⟩ => ?_
  rw [List.nil_append, show owordZ 8 a = oword 8 a from by simp [owordZ]] at h2
  obtain ⟨A, c, rfl, h4, h5, h6, -⟩ := Own.form h2
  rw [oword_len] at h1 h4
  exact ⟨A, c, h1, h4, h5, h6, h3⟩
theorem xh_SumN (sd : BitVec 64) (xs : List Byte) (A : Option Addr) (n c : Nat) (w : World) (hn : xs.length = n) (hc : n ≤ c) (hcm : c ≤ maxLen) (hm : n ≤ 100000000000000) (hr : Rd w A xs) :
    Calls Try.prog 14 #[.int .u64 (nb sd), .slice A n c] w fun e w' => e = .returned (.int .u64 (nb (xsum sd xs))) ∧ Below w.heap.size w w' := by
  subst hn; exact xh_Sum sd xs A _ c w rfl hc hcm hm hr

set_option maxRecDepth 100000 in
set_option maxHeartbeats 1000000 in
theorem xhashBytes_walk (s a b : BitVec 64) (w : World) : Calls Try.prog 8 #[.int .u64 (nb s), .int .u64 (nb a), .int .u64 (nb b)] w fun e w' => e = .returned (.bool true) ∧ Below w.heap.size w w' := by
  have h1 := xsum8_beq s a b
  have h2 := xsum1_beq s (a.setWidth 8) (b.setWidth 8)
  have h3 := xsum0_beq a b
  have H1 := Lib.hid h1
  have H2 := Lib.hid h2
  have H3 := Lib.hid h3
  clear h1 h2 h3
  go_enter Try.func8, Try.ntmps8
  go_wp2_with fail
  refine (xh_lives _).mono ?_
  rintro e w1 ⟨rfl, hb⟩
  have hB := (FB.refl w).call hb
  clear hb
  go_wp2_with fail
  refine (word8_nil a _).mono ?_
  rintro e w2 ⟨A, c, rfl, hc, hcm, hr, hf⟩
  replace hB := hB.trans hf
  have HR := Lib.hid hr
  clear hr hf
  go_wp2_with fail
  refine (word8_nil b _).mono ?_
  rintro e w3 ⟨A', c', rfl, hc', hcm', hr, hf⟩
  replace hB := hB.trans hf
  have HRA := Lib.hid (hf.rd HR.out)
  have HRB := Lib.hid hr
  clear hr hf HR
  have HBB := Lib.hid hB
  clear hB
  have hl := oword_len 8 a
  have hl' := oword_len 8 b
  have hcut := cut_hi A c (oword 8 a) 1 (by omega) (by omega)
  have hcut' := cut_hi A' c' (oword 8 b) 1 (by omega) (by omega)
  rw [hl] at hcut
  rw [hl'] at hcut'
  replace hcut : ∀ W, (Instr.slice 23 (.slice A 8 c) none (some (.int .i64 1)) none).run Try.prog W = .ok (.slice A 1 c) W := hcut
  replace hcut' : ∀ W, (Instr.slice 23 (.slice A' 8 c') none (some (.int .i64 1)) none).run Try.prog W = .ok (.slice A' 1 c') W := hcut'
  clear hl hl'
  go_wp2_with fail
  obtain ⟨W0, hW0⟩ : ∃ W0 : World, W0 = w3 := ⟨_, rfl⟩
  subst hW0
  refine region_sch (E := FB) ((0, true) :: (1, true) :: (2, true) :: (3, true) :: (4, true) :: (5, true) :: (6, true) :: (7, true) :: (8, true) :: (9, true) :: (10, true) :: (11, true) :: []) (by kernel_rfl) FB.refl fb_trans (fun _ _ d _ _ h => by cases d <;> exact h) (by kernel_rfl) ?_
  intro ops hops0
  have hops := Lib.hid hops0
  clear hops0
  have HF : FB W0 W0.drew := (FB.refl _).drew
  generalize W0.drew = wF at *
  repeat (refine sch_take (o := ?_) (v := ?_) (a' := ?_) (at_of hops.out ?_) ?_ (fun W hW => ?_) ?_ ?_; rotate_left 3; (focus (simp only [List.getElem?_toArray, List.getElem?_cons_zero, List.getElem?_cons_succ]; rfl)); (focus (rw [hops.out]; rfl)); (focus (go_simp; with_reducible rfl)); (focus (simp only [Act.put, List.setIfInBounds_toArray, List.set_cons_zero, List.set_cons_succ]; rfl)))
  refine sch_done ?_
  clear hops hcut hcut'
  have HF0 := Lib.hid (HBB.out.trans HF)
  have HRA0 := Lib.hid (FB.rd HF HRA.out)
  have HRB0 := Lib.hid (FB.rd HF HRB.out)
  have HRA1 := Lib.hid (HRA0.out.take 1)
  have HRB1 := Lib.hid (HRB0.out.take 1)
  clear HF HRA HRB HBB
  go_wp2_with fail
  refine (xh_SumN s (oword 8 a) A 8 c _ (oword_len 8 a) hc hcm (by omega) HRA0.out).mono ?_
  rintro e w4 ⟨rfl, hb⟩
  have HF4 := Lib.hid (show FB wF w4 from hb)
  clear hb
  go_wp2_with fail
  refine (xh_SumN s (oword 8 b) A' 8 c' _ (oword_len 8 b) hc' hcm' (by omega) (HF4.out.rd HRB0.out)).mono ?_
  rintro e w5 ⟨rfl, hb⟩
  have HF5 := Lib.hid (HF4.out.call hb)
  clear hb
  have h1 := H1.out
  cases hab : (a == b)
  all_goals
    rw [hab] at h1
    go_wp2_with fail
    refine (xh_SumN s [a.setWidth 8] A 1 c _ rfl (by omega) hcm (by omega) (HF5.out.rd HRA1.out)).mono ?_
    rintro e w6 ⟨rfl, hb⟩
    have HF6 := Lib.hid (HF5.out.call hb)
    clear hb
    go_wp2_with fail
    refine (xh_SumN s [b.setWidth 8] A' 1 c' _ rfl (by omega) hcm' (by omega) (HF6.out.rd HRB1.out)).mono ?_
    rintro e w7 ⟨rfl, hb⟩
    have HF7 := Lib.hid (HF6.out.call hb)
    clear hb
    have h2 := H2.out
    cases hab8 : (a.setWidth 8 == b.setWidth 8)
    all_goals
      rw [hab8] at h2
      go_wp2_with fail
      refine (xh_SumN a [] none 0 0 _ rfl (by omega) (by simp [maxLen]) (by omega) (Rd.nil _ _)).mono ?_
      rintro e w8 ⟨rfl, hb⟩
      have HF8 := Lib.hid (HF7.out.call hb)
      clear hb
      go_wp2_with fail
      refine (xh_SumN b [] none 0 0 _ rfl (by omega) (by simp [maxLen]) (by omega) (Rd.nil _ _)).mono ?_
      rintro e w9 ⟨rfl, hb⟩
      have HF9 := Lib.hid (HF8.out.call hb)
      clear hb
      have h3 := H3.out
      rw [hab] at h3
      go_wp2
      go_ret
      exact ⟨by simp, HF0.out.trans HF9.out⟩
end Go.Proofs.Ytegmpejcolmnoaa
