/- the reference of layer 5: sum. -/
import Derived.Test.YtihljjfnjclefaaDoorPgL
import Derived.Test.YtihljjfnjclefaaDoorRr
import Derived.Test.YtihljjfnjclefaaDoorCrcR
set_option linter.unusedVariables false
set_option linter.unusedSimpArgs false
namespace Go.Proofs.YtihljjfnjclefaaDoor
open Go.ChangeShapes Go.WideShapes Go.ChangeAt Go.RowKit
attribute [local go_sem] nb_nonneg nb_lt8 nb_lt64
set_option maxRecDepth 100000

theorem OwnV.cellset {e : TypeId} {w : World} {base n g c : Nat} {vs : List Value} (h : OwnV e w base (.slice (some ⟨g, 0, none⟩) n c) vs) {j : Nat} (hj : j < vs.length) :
    w.cell? ⟨g, j, none⟩ = some vs[j] ∧ w.frozen? ⟨g, j, none⟩ = false ∧ ∀ u, OwnV e (w.setCell ⟨g, j, none⟩ u) base (.slice (some ⟨g, 0, none⟩) n c) (vs.set j u) := by
  obtain ⟨_, _, _, hn, _⟩ := OwnV.info h
  subst hn
  have hr := h
  unfold OwnV at hr
  refine ⟨?_, World.ownsRow.frozenAt hr j, fun u => ?_⟩
  · rw [World.ownsRow.cellAt hr j (by omega), List.getElem?_eq_getElem hj]
  · have := (World.ownsRow.stored hr j u).1
    unfold OwnV
    rw [List.length_set]
    exact this
def zro (b : List Byte) (k : Nat) : List Byte := b.take 12 ++ (List.replicate k 0#8 ++ b.drop (12 + k))
theorem zro_zero (b : List Byte) : zro b 0 = b := by simp [zro]
theorem zro_four (b : List Byte) : zro b 4 = b.take 12 ++ (z4 ++ b.drop 16) := rfl
theorem zro_len {b : List Byte} {k : Nat} (h : 12 + k ≤ b.length) : (zro b k).length = b.length := by simp [zro]; omega
theorem zro_succ {b : List Byte} {k : Nat} (h : 12 + k < b.length) : (zro b k).set (12 + k) 0#8 = zro b (k + 1) := by
  have l12 : (b.take 12).length = 12 := by simp; omega
  unfold zro
  rw [List.set_append, if_neg (by omega), l12, List.set_append, if_neg (by simp), List.length_replicate, show 12 + k - 12 - k = 0 from by omega, List.drop_eq_getElem_cons h, List.set_cons_zero, List.replicate_succ', List.append_assoc, show 12 + (k + 1) = 12 + k + 1 from rfl]
  rfl
set_option maxHeartbeats 2000000 in
theorem r5_sum (b : List Byte) (A : Option Addr) (c : Nat) (w : World) (hl : b.length = 4096) (hr : Rd w A b) :
    Calls Tryd.prog 46 #[.slice A 4096 c] w fun e w' => e = .returned (.int .u32 (nb (crcSum (b.take 12 ++ (z4 ++ b.drop 16))))) ∧ FB w w' := by
  have HR := Lib.hid hr
  have HL := Lib.hid hl
  clear hr hl
  go_enter Tryd.func46, Tryd.ntmps46
  go_upto_region 2 with (at_builtin; refine wpList_append_bytes rfl _ _ rfl w.heap.size _ [] (OwnV.lit _ w [] (by simp)) rfl A c b (by rw [HL.out]; rfl) (HR.out.alloc _) (by simp [HL.out]) (by simp) ?_; intro v' w1 ho hg _; obtain ⟨A', c', e', -, -, -, -⟩ := Own.form ho; rw [List.nil_append, HL.out] at e'; subst e'; rw [List.nil_append] at ho; have HO := Lib.hid ho; have HG := Lib.hid hg; clear ho hg)
  obtain ⟨g, rfl, hg1, -⟩ := OwnV.head0 HO.out (by rw [vbs_length, HL.out]; omega)
  have HFB := Lib.hid (((FB.refl w).alloc (.cells #[] 5)).grown HG.out (by simp [Value.ownBlock]))
  have HGB := Lib.hid hg1
  clear hg1 HG
  go_wp2_with fail
  go_loopw [4] (fun c4 wl => ∃ k : Nat, k ≤ 4 ∧ c4 = .int .i64 (12 + (k : Int)) ∧ Hid (Own wl w.heap.size (.slice (some ⟨g, 0, none⟩) 4096 c') (zro b k)) ∧ Hid (FB w wl)) (fun c4 wl => 16 - (intOf c4).toNat)
  case atStart => exact ⟨0, by omega, rfl, Lib.hid (by rw [zro_zero]; exact HO.out), HFB.out⟩
  case round =>
    obtain ⟨k, hk, rfl, HOK, HW⟩ := hrel
    by_cases hlt : k < 4
    · obtain ⟨q, hq⟩ : ∃ q, q = 12 + k := ⟨_, rfl⟩
      rw [show (12 : Int) + (k : Int) = (q : Int) from by omega]
      have hq16 : (q : Int) < 16 := by omega
      have hq4 : (q : Int) < 4096 := by omega
      have hwq : IntKind.i64.wrap ((q : Int) + 1) = (q : Int) + 1 := by rw [IntKind.wrap_i64]; omega
      have HLZ := Lib.hid (show (zro b k).length = 4096 from by rw [zro_len (by rw [HL.out]; omega), HL.out])
      obtain ⟨s0, sf, sset⟩ := OwnV.cellset HOK.out (j := q) (by rw [vbs_length, HLZ.out]; omega)
      rw [vbs_get _ _ (by rw [HLZ.out]; omega)] at s0
      unfold vb at s0
      have HO2 := Lib.hid (show Own (wr.setCell ⟨g, q, none⟩ (.int .u8 0)) w.heap.size (.slice (some ⟨g, 0, none⟩) 4096 c') (zro b (k + 1)) from by
        have h1 := sset (vb 0#8)
        unfold Own
        rw [← zro_succ (by rw [HL.out]; omega), ← hq, show vbs ((zro b k).set q 0#8) = (vbs (zro b k)).set q (vb 0#8) from by unfold vbs; rw [List.map_set]]
        exact h1)
      have HW2 := Lib.hid (HW.out.set (p := ⟨g, q, none⟩) HGB.out (.int .u8 0))
      have HQ := Lib.hid hq
      have HLT := Lib.hid hlt
      generalize (zro b k)[q]'(by rw [HLZ.out]; omega) = zq at *
      clear sset hq hlt hk
      go_wp2_with fail
      go_roundw
      case rel => exact ⟨k + 1, by have := HLT.out; omega, by have := HQ.out; go_num, HO2.out, HW2.out⟩
      case measure => have := HQ.out; have := HLT.out; simp [intOf]; omega
    · obtain rfl : k = 4 := by omega
      have hcw := ref_Sum (zro b 4) (some ⟨g, 0, none⟩) c' wr (Own.info HOK.out).1 (Own.info HOK.out).2.1 (Own.info HOK.out).2.2.1
      rw [zro_len (by rw [HL.out]; omega), HL.out, zro_four] at hcw
      have HC := Lib.hid hcw
      rw [show (12 : Int) + ((4 : Nat) : Int) = 16 from rfl]
      clear hcw hk hlt
      go_wp2_with fail
      refine HC.out.mono ?_
      rintro e w5 ⟨rfl, hb⟩
      have HE := Lib.hid (HW.out.call hb)
      clear hb
      go_wp2
      go_ret
      exact ⟨rfl, HE.out⟩
end Go.Proofs.YtihljjfnjclefaaDoor
