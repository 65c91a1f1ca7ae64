/- tallymankit.Ints of a list and itself. -/
import Derived.Test.YtjhgnohofcahbaaSpL
set_option linter.unusedVariables false
set_option linter.unusedSimpArgs false
namespace Go.Proofs.Ytjhgnohofcahbaa
open Go.ChangeShapes Go.WideShapes Go.ChangeAt Go.RowKit
set_option maxRecDepth 100000

set_option maxHeartbeats 1000000 in
theorem kit_Ints (xs : List Nat) (A B : Option Addr) (ca cb : Nat) (w : World) (hx : xs.length ≤ 1000000000) (ha : RdV w A (ivs xs)) (hb : RdV w B (ivs xs)) :
    Calls Try.prog 43 #[.slice A xs.length ca, .slice B xs.length cb] w fun e w' => e = .returned (.bool true) ∧ FB w w' := by
  have HA := Lib.hid ha
  have HB := Lib.hid hb
  have HX := Lib.hid hx
  have hbe : ((xs.length : Int) != (xs.length : Int)) = false := by simp
  clear ha hb hx
  go_enter Try.func43, Try.ntmps43
  go_wp2_with fail
  go_loopw [5] (fun c5 wl => ∃ i : Nat, i ≤ xs.length ∧ c5 = .int .i64 i ∧ Hid (FB w wl)) (fun c5 wl => xs.length - (intOf c5).toNat)
  case atStart => exact ⟨0, by omega, rfl, FB.refl _⟩
  case round =>
    obtain ⟨i, hi, rfl, HW⟩ := hrel
    by_cases hlt : i < xs.length
    · have hil : (i : Int) < (xs.length : Int) := by omega
      have hwi : IntKind.i64.wrap ((i : Int) + 1) = (i : Int) + 1 := by rw [IntKind.wrap_i64]; have := HX.out; omega
      obtain ⟨b1, o1, rfl, -, h1⟩ := RdV.form (HW.out.rdV HA.out) (by rw [ivs_len]; omega)
      obtain ⟨b2, o2, rfl, -, h2⟩ := RdV.form (HW.out.rdV HB.out) (by rw [ivs_len]; omega)
      have hc1 := h1 i (by rw [ivs_len]; exact hlt)
      have hc2 := h2 i (by rw [ivs_len]; exact hlt)
      obtain ⟨v, hv⟩ : ∃ v, v = xs[i] := ⟨_, rfl⟩
      rw [show (ivs xs)[i]'(by rw [ivs_len]; exact hlt) = .int .i64 (v : Int) from by simp [ivs, hv]] at hc1 hc2
      have C1 := Lib.hid hc1
      have C2 := Lib.hid hc2
      have hve : ((v : Int) != (v : Int)) = false := by simp
      clear h1 h2 hc1 hc2 hv
      go_wp2_with fail
      obtain ⟨W0, hW0⟩ : ∃ W0 : World, W0 = wr := ⟨_, rfl⟩
      rw [← hW0]
      refine region_sch (E := FB) ((0, true) :: (1, true) :: (2, true) :: (3, true) :: (4, true) :: (5, true) :: (6, true) :: (7, true) :: (8, true) :: []) (by kernel_rfl) FB.refl fb_trans (fun _ _ d _ _ h => by cases d <;> exact h) (by kernel_rfl) ?_
      intro ops hops0
      have hops := Lib.hid hops0
      clear hops0
      have HF : FB W0 W0.drew := (FB.refl _).drew
      generalize W0.drew = wF at *
      have HFq := Lib.hid (show FB wr wF from by rw [← hW0]; exact HF)
      clear hW0 HF
      have K1 := Lib.hid (FB.cell HFq.out C1.out)
      have K2 := Lib.hid (FB.cell HFq.out C2.out)
      repeat (refine sch_take (o := ?_) (v := ?_) (a' := ?_) (at_of hops.out ?_) ?_ (fun W hW => ?_) ?_ ?_; rotate_left 3; (focus (simp only [List.getElem?_toArray, List.getElem?_cons_zero, List.getElem?_cons_succ]; rfl)); (focus (rw [hops.out]; rfl)); (focus (have u1 := FB.cell hW K1.out; have u2 := FB.cell hW K2.out; go_simp; with_reducible rfl)); (focus (simp only [Act.put, List.setIfInBounds_toArray, List.set_cons_zero, List.set_cons_succ]; rfl)))
      refine sch_done ?_
      have HL := Lib.hid (HW.out.trans HFq.out)
      clear hops K1 K2
      go_wp2_with fail
      go_roundw
      case rel => exact ⟨i + 1, by omega, by go_num, HL.out⟩
      case measure => simp [intOf]; omega
    · obtain rfl : i = xs.length := by omega
      have hil : ¬ (xs.length : Int) < (xs.length : Int) := by omega
      go_wp2
      go_ret
      exact ⟨rfl, HW.out⟩
end Go.Proofs.Ytjhgnohofcahbaa
