/- the reference of layer 8: Free. -/
import Derived.Test.YtjhgnohofcahbaaRsC
set_option linter.unusedVariables false
set_option linter.unusedSimpArgs false
namespace Go.Proofs.Ytjhgnohofcahbaa
open Go.ChangeShapes Go.WideShapes Go.ChangeAt Go.RowKit
attribute [local go_sem] nb_nonneg nb_lt8 nb_lt64
set_option maxRecDepth 100000

set_option maxHeartbeats 2000000 in
theorem rs_Free (P : Int) (us : List Bool) (A : Option Addr) (c : Nat) (w : World) (hr : RdV w A (us.map .bool)) (hl : us.length ≤ 1000000000) :
    Calls Try.prog 44 #[.agg #[.int .i64 P, .slice A us.length c]] w fun e w' => ∃ A' c', e = .returned (.slice A' (spFree P us).length c') ∧ RdV w' A' (ivs (spFree P us)) ∧ FB w w' := by
  have HF := Lib.hid ((FB.refl w).alloc (.cells #[.int .i64 P, .slice A us.length c] 41))
  have HB := Lib.hid (heap_alloc_new w (.cells #[.int .i64 P, .slice A us.length c] 41))
  have HSZ := Lib.hid (show (w.alloc (.cells #[.int .i64 P, .slice A us.length c] 41)).heap.size = w.heap.size + 1 from by simp)
  have HR := Lib.hid hr
  have HL := Lib.hid hl
  obtain ⟨W1, hW1⟩ : ∃ W1 : World, W1 = w.alloc (.cells #[.int .i64 P, .slice A us.length c] 41) := ⟨_, rfl⟩
  rw [← hW1] at HF HB HSZ
  have HCK := Lib.hid (fun W (h : FB W1 W) => rs_Check P us A c W ((HF.out.trans h).rdV hr) (by omega))
  clear hr hl
  obtain ⟨R, hR⟩ : ∃ R, R = spFree P us := ⟨_, rfl⟩
  rw [← hR]
  unfold spFree at hR
  by_cases hok : spOk P us = true
  · rw [if_pos hok] at hR
    have HRR := Lib.hid hR
    rw [show spChk P us = 0 from by unfold spChk; rw [if_pos hok]] at HCK
    clear hR hok
    go_enter Try.func44, Try.ntmps44
    go_wp2_with fail
    rw [← hW1]
    clear hW1
    go_loopw [3, 4] (fun c3 c4 wl => ∃ i : Nat, i ≤ us.length ∧ c4 = .int .i64 i ∧ Hid (OwnV 3 wl (w.heap.size + 1) c3 (ivs (frees us i))) ∧ Hid (FB W1 wl)) (fun c3 c4 wl => us.length - (intOf c4).toNat)
    case atStart => exact ⟨0, by omega, rfl, OwnV.nil _ _ _, FB.refl _⟩
    case round =>
      obtain ⟨i, hi, rfl, HO, HW⟩ := hrel
      obtain ⟨q0, q1⟩ := row2 ((HW.out.block _ (Array.getElem?_eq_some_iff.1 HB.out).1).trans HB.out)
      by_cases hlt : i < us.length
      · have hil : (i : Int) < (us.length : Int) := by omega
        have HCW := Lib.hid (HCK.out _ HW.out)
        have HLT := Lib.hid hlt
        clear hlt
        go_wp2_with fail
        refine HCW.out.mono ?_
        rintro e w2 ⟨rfl, hb⟩
        have HW2 := Lib.hid (HW.out.trans hb)
        have HO2 := Lib.hid (HO.out.below hb)
        clear hb HW HO HCW q0 q1
        obtain ⟨q0, q1⟩ := row2 ((HW2.out.block _ (Array.getElem?_eq_some_iff.1 HB.out).1).trans HB.out)
        obtain ⟨b, o, rfl, hcell⟩ := RdV.bcell ((HF.out.trans HW2.out).rdV HR.out) HLT.out
        rw [← getD_at HLT.out] at hcell
        obtain ⟨u, hu⟩ : ∃ u, u = us.getD i false := ⟨_, rfl⟩
        rw [← hu] at hcell
        have HU := Lib.hid hu
        clear hu
        have hwi : IntKind.i64.wrap ((i : Int) + 1) = (i : Int) + 1 := by rw [IntKind.wrap_i64]; have := HL.out; omega
        have HLN := Lib.hid (show (ivs (frees us i)).length ≤ 1000000000 from by rw [ivs_len]; have := frees_le us i; have := HL.out; omega)
        cases u
        · have HSP := Lib.hid (show w.heap.size + 1 ≤ w2.heap.size from by rw [← HSZ.out]; exact HW2.out.le)
          go_wp2_with (at_builtin; refine wpList_append_any rfl _ _ 51 3 8 (.int .i64 0) Try.underlying51 info_i rfl rfl (w.heap.size + 1) _ (ivs (frees us i)) (HO2.out.alloc _) rfl (some ⟨w2.heap.size, 0, none⟩) 1 1 [.int .i64 (i : Int)] rfl rfl (RdV.lit w2 [.int .i64 (i : Int)] 3 rfl) (by simp [Value.oneCell']) (by have := HLN.out; simp [maxLen]; omega) (by have := HLN.out; simp; omega) (by have := HSP.out; simp; omega) ?_; intro v' w3 ho hg _; have HO3 := Lib.hid ho; have HG := Lib.hid hg; clear ho hg)
          go_roundw
          case rel => exact ⟨i + 1, by have := HLT.out; omega, by go_num, by rw [frees_free HU.out.symm, ivs_snoc]; exact HO3.out, (HW2.out.alloc _).grown HG.out (fun k hk => by have := (OwnV.base HO2.out k hk).1; rw [HSZ.out]; exact this)⟩
          case measure => have := HLT.out; simp [intOf]; omega
        · go_wp2_with fail
          go_roundw
          case rel => exact ⟨i + 1, by have := HLT.out; omega, by go_num, by rw [frees_used HU.out.symm]; exact HO2.out, HW2.out⟩
          case measure => have := HLT.out; simp [intOf]; omega
      · obtain rfl : i = us.length := by omega
        have hil : ¬ (us.length : Int) < (us.length : Int) := by omega
        go_wp2_with fail
        go_ret
        have ho := HO.out
        rw [← HRR.out] at ho
        obtain ⟨A', c', e1, -, -, h3, -⟩ := OwnV.form ho
        rw [ivs_len] at e1
        subst e1
        exact ⟨A', ⟨c', rfl⟩, h3, HF.out.trans HW.out⟩
  · rw [if_neg hok] at hR
    subst hR
    rw [show spChk P us = 2 from by unfold spChk; rw [if_neg hok]] at HCK
    clear hok
    go_enter Try.func44, Try.ntmps44
    go_wp2_with fail
    rw [← hW1]
    clear hW1
    go_loopw [3, 4] (fun c3 c4 wl => c3 = .slice none 0 0 ∧ c4 = .int .i64 0 ∧ Hid (FB W1 wl)) (fun c3 c4 wl => 0)
    case atStart => exact ⟨rfl, rfl, FB.refl _⟩
    case round =>
      obtain ⟨rfl, rfl, HW⟩ := hrel
      obtain ⟨q0, q1⟩ := row2 ((HW.out.block _ (Array.getElem?_eq_some_iff.1 HB.out).1).trans HB.out)
      by_cases hlt : 0 < us.length
      · have hil : (0 : Int) < (us.length : Int) := by omega
        have HCW := Lib.hid (HCK.out _ HW.out)
        clear hlt
        go_wp2_with fail
        refine HCW.out.mono ?_
        rintro e w2 ⟨rfl, hb⟩
        have HW2 := Lib.hid (HW.out.trans hb)
        clear hb HW HCW q0 q1
        go_wp2_with fail
        go_ret
        exact ⟨none, 0, rfl, RdV.nil _ _, HF.out.trans HW2.out⟩
      · have hil : ¬ (0 : Int) < (us.length : Int) := by omega
        go_wp2_with fail
        go_ret
        exact ⟨none, ⟨0, rfl⟩, RdV.nil _ _, HF.out.trans HW.out⟩
end Go.Proofs.Ytjhgnohofcahbaa
