/- The walk of XhashParts. -/
import Derived.Test.YtegmpejcolmnoaaXhW
import Derived.Test.YtegmpejcolmnoaaXhM
set_option linter.unusedVariables false
set_option linter.unusedSimpArgs false
namespace Go.Proofs.Ytegmpejcolmnoaa
open Go.ChangeShapes Go.WideShapes Go.ChangeAt Go.RowKit

def raw4 (a b c d : BitVec 64) : List Byte := oword 8 a ++ (oword 8 b ++ (oword 8 c ++ oword 8 d))
theorem raw4_len (a b c d : BitVec 64) : (raw4 a b c d).length = 32 := by simp [raw4, oword_len]
theorem drop_skip (n : BitVec 64) (ys : List Byte) (m : Nat) : (oword 8 n ++ ys).drop (8 + m) = ys.drop m := by
  have := List.drop_append (l₁ := oword 8 n) (l₂ := ys) (i := 8 + m)
  rw [this, oword_len, List.drop_eq_nil_of_le (by rw [oword_len]; omega), List.nil_append, Nat.add_sub_cancel_left]
theorem take_skip (n : BitVec 64) (ys : List Byte) : (oword 8 n ++ ys).take 8 = oword 8 n := by
  have := oword_len 8 n
  rw [List.take_append_of_le_length (by omega), List.take_of_length_le (by omega)]
theorem raw4_at (a b c d : BitVec 64) (j : Nat) (hj : j < 4) : ((raw4 a b c d).drop (8 * j)).take 8 = oword 8 ([a, b, c, d].getD j 0#64) := by
  have h : j = 0 ∨ j = 1 ∨ j = 2 ∨ j = 3 := by omega
  have la := oword_len 8 a
  have lb := oword_len 8 b
  have lc := oword_len 8 c
  have ld := oword_len 8 d
  unfold raw4
  rcases h with rfl | rfl | rfl | rfl
  · show (List.drop 0 _).take 8 = oword 8 a
    rw [List.drop_zero, take_skip]
  · show (List.drop (8 + 0) _).take 8 = oword 8 b
    rw [drop_skip, List.drop_zero, take_skip]
  · show (List.drop (8 + (8 + 0)) _).take 8 = oword 8 c
    rw [drop_skip, drop_skip, List.drop_zero, take_skip]
  · show (List.drop (8 + (8 + (8 + 0))) _).take 8 = oword 8 d
    rw [drop_skip, drop_skip, drop_skip, List.drop_zero, List.take_of_length_le (by omega)]
theorem raw4_take (a b c d : BitVec 64) (j : Nat) (hj : j < 4) : (raw4 a b c d).take (8 * (j + 1)) = (raw4 a b c d).take (8 * j) ++ oword 8 ([a, b, c, d].getD j 0#64) := by
  rw [← raw4_at a b c d j hj, show 8 * (j + 1) = 8 * j + 8 by omega, List.take_add]
theorem xsum_raw4 (s a b c d : BitVec 64) : xsum s (raw4 a b c d) = xaval (xout (xpart (xstart s) (raw4 a b c d) 4) + 32#64) := by
  have hl := raw4_len a b c d
  unfold xsum
  rw [if_pos (by omega), x32s_ge (by omega), x32s_lt (by rw [List.length_drop]; omega), x8s_lt (by rw [List.length_drop]; omega), List.drop_eq_nil_of_le (by omega), hl]
  rfl
theorem xpart_raw4 (s a b c d : BitVec 64) (j : Nat) (hj : j < 4) : xpart (xstart s) (raw4 a b c d) (j + 1) = (xpart (xstart s) (raw4 a b c d) j).set j (xround ((xpart (xstart s) (raw4 a b c d) j).getD j 0#64) ([a, b, c, d].getD j 0#64)) := by
  rw [xpart, raw4_at a b c d j hj, xword_oword8]

attribute [local go_sem] nb_beq nb_nonneg nb_lt64 wrap_addl64 wrap_mull64 wrap_add64 wrap_mul64 wrap_subl64 BitVec.setWidth_eq bits_or64 wrap_shl nb_shrk
set_option maxRecDepth 100000 in
set_option maxHeartbeats 400000 in
theorem parts_rot (x : BitVec 64) (k : Nat) (z : Int) (hz : z = k) (hk : k < 64) (w : World) : Calls Try.prog 38 #[.int .u64 (nb x), .int .u64 z] w fun e w' => e = .returned (.int .u64 (nb (xrot x k))) ∧ w = w' := by
  subst hz
  have h2 := sub64 k (by omega)
  go_enter Try.func38, Try.ntmps38
  go_wp2
  go_ret
  exact ⟨by simp [go_sem, xrot, h2], rfl⟩
/-- The four words. -/
structure PS (w wr : World) (g1 g2 : Nat) (l m : List (BitVec 64)) (v : Value) (ys : List Byte) : Prop where
  l4 : l.length = 4
  m4 : m.length = 4
  r1 : wr.heap[g1]? = some (.cells (lanes l) 43 (0, 0))
  r2 : wr.heap[g2]? = some (.cells (lanes m) 43 (0, 0))
  fb : FB w wr
  own : Own wr (g2 + 1) v ys
theorem PS.cell1 {w wr : World} {g1 g2 : Nat} {l m : List (BitVec 64)} {v : Value} {ys : List Byte} (h : PS w wr g1 g2 l m v ys) (j : Nat) (hj : j < 4) :
    ∀ W, FB wr W → W.cell? ⟨g1, j, none⟩ = some (.int .u64 (nb (l.getD j 0#64))) := fun W hW => by
  have h1 : W.heap[g1]? = _ := (hW.block g1 (Array.getElem?_eq_some_iff.1 h.r1).1).trans h.r1
  rw [cell_of_row _ _ _ _ _ _ h1, lanes_get l j (by rw [h.l4]; exact hj)]
theorem PS.cell2 {w wr : World} {g1 g2 : Nat} {l m : List (BitVec 64)} {v : Value} {ys : List Byte} (h : PS w wr g1 g2 l m v ys) (j : Nat) (hj : j < 4) :
    ∀ W, FB wr W → W.cell? ⟨g2, j, none⟩ = some (.int .u64 (nb (m.getD j 0#64))) := fun W hW => by
  have h1 : W.heap[g2]? = _ := (hW.block g2 (Array.getElem?_eq_some_iff.1 h.r2).1).trans h.r2
  rw [cell_of_row _ _ _ _ _ _ h1, lanes_get m j (by rw [h.m4]; exact hj)]
theorem PS.fr2 {w wr : World} {g1 g2 : Nat} {l m : List (BitVec 64)} {v : Value} {ys : List Byte} (h : PS w wr g1 g2 l m v ys) (j : Nat) :
    ∀ W, FB wr W → W.frozen? ⟨g2, j, none⟩ = false := fun W hW =>
  frozen_row _ ((hW.block g2 (Array.getElem?_eq_some_iff.1 h.r2).1).trans h.r2) j
theorem PS.set {w wr W : World} {g1 g2 : Nat} {l m : List (BitVec 64)} {v v' : Value} {ys ys' : List Byte} (h : PS w wr g1 g2 l m v ys) (hW : FB wr W) (hg : w.heap.size ≤ g2) (hne : g1 ≠ g2) (ho : Own W (g2 + 1) v' ys') (j : Nat) (x : BitVec 64) :
    PS w (W.setCell ⟨g2, j, none⟩ (.int .u64 (nb x))) g1 g2 l (m.set j x) v' ys' := by
  have h1 : W.heap[g1]? = _ := (hW.block g1 (Array.getElem?_eq_some_iff.1 h.r1).1).trans h.r1
  have h2 : W.heap[g2]? = _ := (hW.block g2 (Array.getElem?_eq_some_iff.1 h.r2).1).trans h.r2
  refine ⟨h.l4, by rw [List.length_set]; exact h.m4, ?_, ?_, (h.fb.trans hW).set hg _, (TB.set W j _).own ho (by omega)⟩
  · rw [heap_setCell_other _ _ _ _ (by simpa using hne)]; exact h1
  · rw [heap_setCell_same _ g2 j _ _ _ h2, lanes_set]

set_option maxRecDepth 100000 in
set_option maxHeartbeats 4000000 in
theorem xhashParts_walk (s a b c d : BitVec 64) (w : World) : Calls Try.prog 9 #[.int .u64 (nb s), .int .u64 (nb a), .int .u64 (nb b), .int .u64 (nb c), .int .u64 (nb d)] w fun e w' => e = .returned (.bool true) ∧ Below w.heap.size w w' := by
  go_enter Try.func9, Try.ntmps9
  go_wp2_with fail
  refine (xh_lives _).mono ?_
  rintro e w1 ⟨rfl, hb⟩
  have HB1 := Lib.hid ((FB.refl w).call hb)
  clear hb
  go_wp2
  have hr1 : (w1.alloc (.cells (lanes [a, b, c, d]) 43)).heap[w1.heap.size]? = some (.cells (lanes [a, b, c, d]) 43 (0, 0)) := heap_alloc_new _ _
  have hr2 : ((w1.alloc (.cells (lanes [a, b, c, d]) 43)).alloc (.cells (lanes (xstart s)) 43)).heap[w1.heap.size + 1]? = some (.cells (lanes (xstart s)) 43 (0, 0)) := by
    have := heap_alloc_new (w1.alloc (.cells (lanes [a, b, c, d]) 43)) (.cells (lanes (xstart s)) 43 (0, 0))
    simpa using this
  have HS0 := Lib.hid (show PS w1 _ w1.heap.size (w1.heap.size + 1) [a, b, c, d] (xpart (xstart s) (raw4 a b c d) 0) (.slice none 0 0) ((raw4 a b c d).take (8 * 0)) from
    ⟨rfl, rfl, ((FB.refl _).alloc (.cells (lanes (xstart s)) 43)).block _ (by simp) |>.trans hr1, hr2, ((FB.refl w1).alloc _).alloc _, Own.nil _ _⟩)
  clear hr1 hr2
  go_loopw [15, 16] (fun v i wr => ∃ j : Nat, j ≤ 4 ∧ i = .int .i64 j ∧ Hid (PS w1 wr w1.heap.size (w1.heap.size + 1) [a, b, c, d] (xpart (xstart s) (raw4 a b c d) j) v ((raw4 a b c d).take (8 * j)))) (fun _ i _ => 4 - (intOf i).toNat)
  case atStart => exact ⟨0, by omega, rfl, HS0.out⟩
  case round =>
    clear HS0
    obtain ⟨j, hj, rfl, HP⟩ := hrel
    by_cases hlt : j < 4
    · have HC1 := Lib.hid (HP.out.cell1 j hlt)
      have HC2 := Lib.hid (HP.out.cell2 j hlt)
      have HFZ := Lib.hid (HP.out.fr2 j)
      have HX := Lib.hid (xpart_raw4 s a b c d j hlt)
      have HT := Lib.hid (raw4_take a b c d j hlt)
      have htl : ((raw4 a b c d).take (8 * j)).length = 8 * j := by rw [List.length_take, raw4_len]; omega
      have HTL := Lib.hid htl
      obtain ⟨A, cc, rfl, hc1, hc2, hr, -⟩ := Own.form HP.out.own
      rw [htl] at hc1 ⊢
      have HR := Lib.hid hr
      clear hr htl
      generalize [a, b, c, d].getD j 0#64 = wj at HC1 HX HT
      generalize (xpart (xstart s) (raw4 a b c d) j).getD j 0#64 = aj at HC2 HX
      have q1 := HC1.out wr (FB.refl _)
      have hj4 : (j : Int) < 4 := by omega
      go_wp2_with fail
      refine (oct_Word _ A (8 * j) cc wj 8 _ HTL.out.symm (by rw [HTL.out]; exact hc1) hc2 (by rw [HTL.out]; omega) HR.out).mono ?_
      rintro e w2 ⟨v2, rfl, ho, hb⟩
      rw [show owordZ 8 wj = oword 8 wj from by simp [owordZ], ← HT.out] at ho
      have HF2 := Lib.hid (show FB wr w2 from hb)
      have HO2 := Lib.hid (Own.lower ho (show w1.heap.size + 1 + 1 ≤ wr.heap.size from (Array.getElem?_eq_some_iff.1 HP.out.r2).1))
      clear ho hb q1
      go_wp2_with fail
      obtain ⟨W0, hW0⟩ : ∃ W0 : World, W0 = w2 := ⟨_, rfl⟩
      subst hW0
      refine region_schL (E := FB) 9 ((0, true) :: (1, true) :: (2, true) :: (3, true) :: (4, true) :: (5, true) :: (6, true) :: (7, false) :: (8, true) :: []) (by kernel_rfl) FB.refl fb_trans (fun _ _ d _ _ h => by cases d <;> exact h) (by kernel_rfl) ?_
      intro ops hops0
      have hops := Lib.hid hops0
      clear hops0
      have HF : FB W0 W0.drew := (FB.refl _).drew
      generalize W0.drew = wF at *
      repeat (refine sch_take (o := ?_) (v := ?_) (a' := ?_) (at_of hops.out ?_) ?_ (fun W hW => ?_) ?_ ?_; rotate_left 3; (focus (simp only [List.getElem?_toArray, List.getElem?_cons_zero, List.getElem?_cons_succ]; rfl)); (focus (rw [hops.out]; rfl)); (focus (have q1 := HC1.out W ((HF2.out.trans HF).trans hW); have q2 := HC2.out W ((HF2.out.trans HF).trans hW); go_simp; with_reducible rfl)); (focus (simp only [Act.put, List.setIfInBounds_toArray, List.set_cons_zero, List.set_cons_succ]; rfl)))
      (refine sch_call (o := ?_) (f := ?_) (args := ?_) (at_of hops.out ?_) ?_ ?_ ?_; rotate_left 3; (focus (simp only [List.getElem?_toArray, List.getElem?_cons_zero, List.getElem?_cons_succ]; rfl)); (focus (rw [hops.out]; rfl)); (focus (go_simp; constructor <;> with_reducible rfl)); (first | ((with_reducible refine (xh_Round _ _ _).mono ?_); rintro e w' ⟨rfl, rfl⟩; refine ⟨_, rfl, FB.refl _, ?_⟩; intro a' ha'; simp only [Act.put, List.setIfInBounds_toArray, List.set_cons_zero, List.set_cons_succ] at ha'; subst ha')))
      repeat (refine sch_take (o := ?_) (v := ?_) (a' := ?_) (at_of hops.out ?_) ?_ (fun W hW => ?_) ?_ ?_; rotate_left 3; (focus (simp only [List.getElem?_toArray, List.getElem?_cons_zero, List.getElem?_cons_succ]; rfl)); (focus (rw [hops.out]; rfl)); (focus (go_simp; with_reducible rfl)); (focus (simp only [Act.put, List.setIfInBounds_toArray, List.set_cons_zero, List.set_cons_succ]; rfl)))
      have hE : (Instr.storeAt 22 (.pointer (some ⟨w1.heap.size + 1, j, none⟩)) (.int .u64 (nb (xround aj wj)))).run Try.prog wF = .ok () (wF.setCell ⟨w1.heap.size + 1, j, none⟩ (.int .u64 (nb (xround aj wj)))) := run_store64 _ _ _ _ _ (HC2.out _ (HF2.out.trans HF)) (HFZ.out _ (HF2.out.trans HF))
      (refine schL_store (o := ?_) (at_of hops.out ?_) ?_ 22 (.tmp 54) (.tmp 53) ?_ _ _ ?_ ?_ hE ?_; rotate_left 1; (focus (simp only [List.getElem?_toArray, List.getElem?_cons_zero, List.getElem?_cons_succ]; rfl)); (focus (rw [hops.out]; rfl)); (focus rfl); (focus rfl); (focus rfl))
      have HP2 := Lib.hid (HP.out.set (HF2.out.trans HF) (by omega) (by omega) (HF.own HO2.out) j (xround aj wj))
      clear hops hE HF HC1 HC2 HFZ
      go_wp2
      go_roundw
      case rel => exact ⟨j + 1, by omega, by go_num, by rw [HX.out]; exact HP2.out⟩
      case measure => simp [intOf]; omega
    · obtain rfl : j = 4 := by omega
      rw [show ((4 : Nat) : Int) = 4 from rfl]
      obtain ⟨A, cc, rfl, hc1, hc2, hr, -⟩ := Own.form HP.out.own
      have htl : ((raw4 a b c d).take (8 * 4)) = raw4 a b c d := List.take_of_length_le (by rw [raw4_len]; omega)
      rw [htl, raw4_len] at hc1
      rw [htl] at hr ⊢
      rw [raw4_len]
      have HR := Lib.hid hr
      have HQ := Lib.hid (xsum_raw4 s a b c d)
      have HC0 := Lib.hid (HP.out.cell2 0 (by omega))
      have HC1 := Lib.hid (HP.out.cell2 1 (by omega))
      have HC2 := Lib.hid (HP.out.cell2 2 (by omega))
      have HC3 := Lib.hid (HP.out.cell2 3 (by omega))
      have HCJ0 := Lib.hid (HP.out.cell2)
      have HL4 := Lib.hid HP.out.m4
      have HFB := Lib.hid (HB1.out.trans HP.out.fb)
      generalize xpart (xstart s) (raw4 a b c d) 4 = l at HQ HC0 HC1 HC2 HC3 HCJ0 HL4
      generalize hq0 : l.getD 0 0#64 = l0 at HC0
      have HQ0 := Lib.hid hq0
      generalize hq1 : l.getD 1 0#64 = l1 at HC1
      have HQ1 := Lib.hid hq1
      generalize hq2 : l.getD 2 0#64 = l2 at HC2
      have HQ2 := Lib.hid hq2
      generalize hq3 : l.getD 3 0#64 = l3 at HC3
      have HQ3 := Lib.hid hq3
      clear hq0 hq1 hq2 hq3 hr htl HP
      go_wp2_with fail
      obtain ⟨W0, hW0⟩ : ∃ W0 : World, W0 = wr := ⟨_, rfl⟩
      subst hW0
      refine region_sch (E := FB) ((0, true) :: (1, true) :: (2, true) :: (4, true) :: (5, true) :: (6, true) :: (9, true) :: (10, true) :: (11, true) :: (14, true) :: (15, true) :: (16, true) :: (3, false) :: (7, false) :: (8, true) :: (12, false) :: (13, true) :: (17, false) :: (18, true) :: (19, true) :: []) (by kernel_rfl) FB.refl fb_trans (fun _ _ d _ _ h => by cases d <;> exact h) (by kernel_rfl) ?_
      intro ops hops0
      have hops := Lib.hid hops0
      clear hops0
      have HF : FB W0 W0.drew := (FB.refl _).drew
      generalize W0.drew = wF at *
      repeat (refine sch_take (o := ?_) (v := ?_) (a' := ?_) (at_of hops.out ?_) ?_ (fun W hW => ?_) ?_ ?_; rotate_left 3; (focus (simp only [List.getElem?_toArray, List.getElem?_cons_zero, List.getElem?_cons_succ]; rfl)); (focus (rw [hops.out]; rfl)); (focus (have q0 := HC0.out W (HF.trans hW); have q1 := HC1.out W (HF.trans hW); have q2 := HC2.out W (HF.trans hW); have q3 := HC3.out W (HF.trans hW); go_simp; with_reducible rfl)); (focus (simp only [Act.put, List.setIfInBounds_toArray, List.set_cons_zero, List.set_cons_succ]; rfl)))
      (refine sch_call (o := ?_) (f := ?_) (args := ?_) (at_of hops.out ?_) ?_ ?_ ?_; rotate_left 3; (focus (simp only [List.getElem?_toArray, List.getElem?_cons_zero, List.getElem?_cons_succ]; rfl)); (focus (rw [hops.out]; rfl)); (focus (go_simp; constructor <;> with_reducible rfl)); (first | ((with_reducible refine (parts_rot _ 1 1 rfl (by decide) _).mono ?_); rintro e w1 ⟨rfl, rfl⟩; refine ⟨_, rfl, FB.refl _, ?_⟩; intro a' ha'; simp only [Act.put, List.setIfInBounds_toArray, List.set_cons_zero, List.set_cons_succ] at ha'; subst ha')))
      (refine sch_call (o := ?_) (f := ?_) (args := ?_) (at_of hops.out ?_) ?_ ?_ ?_; rotate_left 3; (focus (simp only [List.getElem?_toArray, List.getElem?_cons_zero, List.getElem?_cons_succ]; rfl)); (focus (rw [hops.out]; rfl)); (focus (go_simp; constructor <;> with_reducible rfl)); (first | ((with_reducible refine (parts_rot _ 7 7 rfl (by decide) _).mono ?_); rintro e w1 ⟨rfl, rfl⟩; refine ⟨_, rfl, FB.refl _, ?_⟩; intro a' ha'; simp only [Act.put, List.setIfInBounds_toArray, List.set_cons_zero, List.set_cons_succ] at ha'; subst ha')))
      repeat (refine sch_take (o := ?_) (v := ?_) (a' := ?_) (at_of hops.out ?_) ?_ (fun W hW => ?_) ?_ ?_; rotate_left 3; (focus (simp only [List.getElem?_toArray, List.getElem?_cons_zero, List.getElem?_cons_succ]; rfl)); (focus (rw [hops.out]; rfl)); (focus (go_simp; with_reducible rfl)); (focus (simp only [Act.put, List.setIfInBounds_toArray, List.set_cons_zero, List.set_cons_succ]; rfl)))
      (refine sch_call (o := ?_) (f := ?_) (args := ?_) (at_of hops.out ?_) ?_ ?_ ?_; rotate_left 3; (focus (simp only [List.getElem?_toArray, List.getElem?_cons_zero, List.getElem?_cons_succ]; rfl)); (focus (rw [hops.out]; rfl)); (focus (go_simp; constructor <;> with_reducible rfl)); (first | ((with_reducible refine (parts_rot _ 12 12 rfl (by decide) _).mono ?_); rintro e w1 ⟨rfl, rfl⟩; refine ⟨_, rfl, FB.refl _, ?_⟩; intro a' ha'; simp only [Act.put, List.setIfInBounds_toArray, List.set_cons_zero, List.set_cons_succ] at ha'; subst ha')))
      repeat (refine sch_take (o := ?_) (v := ?_) (a' := ?_) (at_of hops.out ?_) ?_ (fun W hW => ?_) ?_ ?_; rotate_left 3; (focus (simp only [List.getElem?_toArray, List.getElem?_cons_zero, List.getElem?_cons_succ]; rfl)); (focus (rw [hops.out]; rfl)); (focus (go_simp; with_reducible rfl)); (focus (simp only [Act.put, List.setIfInBounds_toArray, List.set_cons_zero, List.set_cons_succ]; rfl)))
      (refine sch_call (o := ?_) (f := ?_) (args := ?_) (at_of hops.out ?_) ?_ ?_ ?_; rotate_left 3; (focus (simp only [List.getElem?_toArray, List.getElem?_cons_zero, List.getElem?_cons_succ]; rfl)); (focus (rw [hops.out]; rfl)); (focus (go_simp; constructor <;> with_reducible rfl)); (first | ((with_reducible refine (parts_rot _ 18 18 rfl (by decide) _).mono ?_); rintro e w1 ⟨rfl, rfl⟩; refine ⟨_, rfl, FB.refl _, ?_⟩; intro a' ha'; simp only [Act.put, List.setIfInBounds_toArray, List.set_cons_zero, List.set_cons_succ] at ha'; subst ha')))
      repeat (refine sch_take (o := ?_) (v := ?_) (a' := ?_) (at_of hops.out ?_) ?_ (fun W hW => ?_) ?_ ?_; rotate_left 3; (focus (simp only [List.getElem?_toArray, List.getElem?_cons_zero, List.getElem?_cons_succ]; rfl)); (focus (rw [hops.out]; rfl)); (focus (go_simp; with_reducible rfl)); (focus (simp only [Act.put, List.setIfInBounds_toArray, List.set_cons_zero, List.set_cons_succ]; rfl)))
      refine sch_done ?_
      have hx : xrot l0 1 + xrot l1 7 + xrot l2 12 + xrot l3 18 = xlanes l := by rw [← HQ0.out, ← HQ1.out, ← HQ2.out, ← HQ3.out]; rfl
      rw [hx]
      have HCJ := Lib.hid (fun j hj => HCJ0.out j hj wF HF)
      have HFF := Lib.hid (HFB.out.trans HF)
      have HRF := Lib.hid (FB.rd HF HR.out)
      clear hops HC0 HC1 HC2 HC3 hx HQ0 HQ1 HQ2 HQ3 HCJ0 HF
      go_wp2
      go_loop [17, 18] (fun h i => ∃ j : Nat, j ≤ 4 ∧ i = .int .i64 j ∧ h = .int .u64 (nb ((l.take j).foldl xmerge (xlanes l)))) (fun _ i => 4 - (intOf i).toNat)
      case atStart => exact ⟨0, by omega, rfl, rfl⟩
      case round =>
        obtain ⟨j, hj, rfl, rfl⟩ := hrel
        by_cases hlt : j < 4
        · have hj4 : (j : Int) < 4 := by omega
          have HX := Lib.hid (show (l.take (j + 1)).foldl xmerge (xlanes l) = xmerge ((l.take j).foldl xmerge (xlanes l)) (l.getD j 0#64) by
            rw [List.take_succ_eq_append_getElem (by rw [HL4.out]; exact hlt), List.foldl_append]
            simp [List.getD_eq_getElem?_getD, HL4.out, hlt])
          generalize hv : l.getD j 0#64 = v at HX
          have hix := HCJ.out j hlt
          rw [hv] at hix
          clear hv
          generalize (l.take j).foldl xmerge (xlanes l) = hh at *
          go_wp2_with fail
          refine (xh_Merge _ _ _).mono ?_
          rintro e w4 ⟨rfl, rfl⟩
          go_wp2
          go_round
          case rel => exact ⟨j + 1, by omega, by go_num, by rw [HX.out]⟩
          case measure => simp [intOf]; omega
        · obtain rfl : j = 4 := by omega
          have hall : (l.take 4).foldl xmerge (xlanes l) = xout l := by rw [List.take_of_length_le (by rw [HL4.out]; omega)]; rfl
          rw [hall]
          clear hall HCJ HL4
          generalize xout l = h0 at *
          go_wp2_with fail
          refine (xh_Sum s (raw4 a b c d) A 32 cc _ (raw4_len a b c d).symm (by rw [raw4_len]; exact hc1) hc2 (by rw [raw4_len]; omega) HRF.out).mono ?_
          rintro e w5 ⟨rfl, hb⟩
          have HF5 := Lib.hid (HFF.out.call hb)
          clear hb
          rw [HQ.out]
          go_wp2_with fail
          refine (xh_Avalanche _ _).mono ?_
          rintro e w6 ⟨rfl, rfl⟩
          go_wp2_with fail
          refine (xh_Sum s [] none 0 0 _ rfl (by simp) (by simp [maxLen]) (by simp) (Rd.nil _ _)).mono ?_
          rintro e w6 ⟨rfl, hb⟩
          have HF6 := Lib.hid (HF5.out.call hb)
          clear hb
          rw [xsum0, BitVec.add_zero]
          go_wp2_with fail
          refine (xh_Avalanche _ _).mono ?_
          rintro e w7 ⟨rfl, rfl⟩
          go_wp2
          go_ret
          exact ⟨by simp, HF6.out⟩
end Go.Proofs.Ytegmpejcolmnoaa
