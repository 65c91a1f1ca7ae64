/- page: the walk through crcOf. -/
import Derived.Test.YtihljjfnjclefaaDoorPgA
set_option linter.unusedVariables false
set_option linter.unusedSimpArgs false
namespace Go.Proofs.YtihljjfnjclefaaDoor
open Go.ChangeShapes Go.WideShapes Go.ChangeAt Go.RowKit
attribute [local go_sem] nb_nonneg nb_lt8 nb_lt64
set_option maxRecDepth 100000

theorem crc_three (a b c : List Byte) : crcOns crcT [a, b, c] = crcSum (a ++ (b ++ c)) := by
  unfold crcOns crcSum
  simp only [List.foldl_cons, List.foldl_nil, crcOn_append, List.append_assoc]
set_option maxHeartbeats 1000000 in
theorem pg_crcOf (b : List Byte) (bb bo c : Nat) (w : World) (hl : b.length = 4096) (hc : 4096 ≤ c) (hm : c ≤ maxLen) (hr : Rd w (some ⟨bb, bo, none⟩) b) :
    Calls Tryd.prog 38 #[.slice (some ⟨bb, bo, none⟩) 4096 c] w fun e w' => e = .returned (.int .u32 (nb (crcSum (b.take 12 ++ (z4 ++ b.drop 16))))) ∧ FB w w' := by
  have HR := Lib.hid hr
  have HL := Lib.hid hl
  have HM := Lib.hid hm
  have hcm : (c : Int) ≤ 9223372036854775807 := by unfold maxLen at hm; omega
  have hcz : (4096 : Int) ≤ (c : Int) := by omega
  have hc2 : (16 : Int) ≤ (c : Int) := by omega
  have hc3 : (12 : Int) ≤ (c : Int) := by omega
  have hc4 : 16 < c := by omega
  have hc5 : ¬ c = 16 := by omega
  obtain ⟨C, hmk, hC⟩ := mk_bytes 4 4 rfl (by omega)
  have HC := Lib.hid hC
  have HCC := Lib.hid hc
  clear hr hl hm hC hc
  go_enter Tryd.func38, Tryd.ntmps38
  go_wp2_with fail
  obtain ⟨W0, hW0⟩ : ∃ W0 : World, W0 = w := ⟨_, rfl⟩
  rw [← hW0]
  refine region_sch (E := FB) ((0, true) :: (1, true) :: (3, true) :: (4, true) :: (2, false) :: (5, false) :: (6, false) :: (7, true) :: []) (by kernel_rfl) FB.refl fb_trans (fun _ _ d _ _ h => by cases d <;> exact h) (by kernel_rfl) ?_
  intro ops hops0
  have hops := Lib.hid hops0
  clear hops0
  have HF : FB W0 W0.drew := (FB.refl _).drew
  generalize W0.drew = wF at *
  have HFq := Lib.hid (show FB w wF from by rw [← hW0]; exact HF)
  clear hW0 HF
  have HF := FB.refl wF
  repeat (refine sch_take (o := ?_) (v := ?_) (a' := ?_) (at_of hops.out ?_) ?_ (fun W hW => ?_) ?_ ?_; rotate_left 3; (focus (simp only [List.getElem?_toArray, List.getElem?_cons_zero, List.getElem?_cons_succ]; rfl)); (focus (rw [hops.out]; rfl)); (focus (go_simp; with_reducible rfl)); (focus (simp only [Act.put, List.setIfInBounds_toArray, List.set_cons_zero, List.set_cons_succ]; rfl)))
  (refine sch_run (o := ?_) (v := ?_) (a' := ?_) (w' := ?_) (at_of hops.out ?_) ?_ ?_ ?_ ?_ ?_; rotate_left 4; (focus (simp only [List.getElem?_toArray, List.getElem?_cons_zero, List.getElem?_cons_succ]; rfl)); (focus (rw [hops.out]; rfl)); (focus (go_simp; constructor <;> with_reducible rfl)); (focus (exact (FB.refl _).alloc _)); (focus (simp only [Act.put, List.setIfInBounds_toArray, List.set_cons_zero, List.set_cons_succ]; rfl)))
  (refine sch_run (o := ?_) (v := ?_) (a' := ?_) (w' := ?_) (at_of hops.out ?_) ?_ ?_ ?_ ?_ ?_; rotate_left 4; (focus (simp only [List.getElem?_toArray, List.getElem?_cons_zero, List.getElem?_cons_succ]; rfl)); (focus (rw [hops.out]; rfl)); (focus (go_simp; constructor <;> with_reducible rfl)); (focus (exact (FB.refl _).alloc _)); (focus (simp only [Act.put, List.setIfInBounds_toArray, List.set_cons_zero, List.set_cons_succ]; rfl)))
  have hb1 := (HFq.out.alloc (.cells C 5)).rd HR.out
  have hz : Rd (wF.alloc (.cells C 5)) (some ⟨wF.heap.size, 0, none⟩) z4 := by
    have := RdV.lit wF (vbs (List.replicate 4 0#8)) 5 rfl
    rw [← HC.out] at this
    exact this
  have hrl := RdL.lit (w := wF.alloc (.cells C 5)) (ls := [b.take 12, z4, b.drop 16]) (vs := [.slice (some ⟨bb, bo, none⟩) 12 c, .slice (some ⟨wF.heap.size, 0, none⟩) 4 4, .slice (some ⟨bb, bo + 16, none⟩) 4080 (c - 16)]) (t := 23) rfl (fun i hi => by
    have := HL.out
    have h1 := HCC.out
    have h2 := HM.out
    match i, hi with
    | 0, _ => exact ⟨some ⟨bb, bo, none⟩, c, by simp [HL.out], by simp; omega, h2, hb1.take 12⟩
    | 1, _ => exact ⟨some ⟨wF.heap.size, 0, none⟩, 4, by simp [z4], by simp [z4], by simp [maxLen], hz⟩
    | 2, _ => exact ⟨some ⟨bb, bo + 16, none⟩, c - 16, by simp [HL.out], by simp [HL.out]; omega, by omega, hb1.drop 16⟩)
  have hcall := (crc_Parts [b.take 12, z4, b.drop 16] (some ⟨(wF.alloc (.cells C 5)).heap.size, 0, none⟩) 3 _ (by simp) (by simp [maxLen]) hrl).mono (fun e w' h => And.intro h.1 (show FB _ w' from h.2))
  replace HF := (HF.alloc (.cells C 5)).alloc (.cells #[.slice (some ⟨bb, bo, none⟩) 12 c, .slice (some ⟨wF.heap.size, 0, none⟩) 4 4, .slice (some ⟨bb, bo + 16, none⟩) 4080 (c - 16)] 23)
  rw [crc_three] at hcall
  simp only [World.size_alloc, List.length_cons, List.length_nil, Nat.zero_add, Nat.reduceAdd] at hcall
  have HCL := Lib.hid hcall
  clear hb1 hz hrl hcall hmk
  (refine sch_call (o := ?_) (f := ?_) (args := ?_) (at_of hops.out ?_) ?_ ?_ ?_; rotate_left 3; (focus (simp only [List.getElem?_toArray, List.getElem?_cons_zero, List.getElem?_cons_succ]; rfl)); (focus (rw [hops.out]; rfl)); (focus (go_simp; constructor <;> with_reducible rfl)); (first | ((with_reducible refine (HCL.out).mono ?_); rintro e w' ⟨rfl, hb⟩; refine ⟨_, rfl, hb, ?_⟩; intro a' ha'; simp only [Act.put, List.setIfInBounds_toArray, List.set_cons_zero, List.set_cons_succ] at ha'; subst ha'; replace HF := HF.call hb; clear hb)))
  repeat (refine sch_take (o := ?_) (v := ?_) (a' := ?_) (at_of hops.out ?_) ?_ (fun W hW => ?_) ?_ ?_; rotate_left 3; (focus (simp only [List.getElem?_toArray, List.getElem?_cons_zero, List.getElem?_cons_succ]; rfl)); (focus (rw [hops.out]; rfl)); (focus (go_simp; with_reducible rfl)); (focus (simp only [Act.put, List.setIfInBounds_toArray, List.set_cons_zero, List.set_cons_succ]; rfl)))
  refine sch_done ?_
  have HE := Lib.hid (HFq.out.trans HF)
  clear hops HF
  go_wp2
  go_ret
  exact ⟨rfl, HE.out⟩
end Go.Proofs.YtihljjfnjclefaaDoor
