/- The walk of CrcTells. -/
import Derived.Test.YtoacmcfildmijaaCrcL
import Derived.Test.YtoacmcfildmijaaCrcTp
import Derived.Test.YtoacmcfildmijaaSched
import Derived.WalkLawsBesides
set_option linter.unusedVariables false
set_option linter.unusedSimpArgs false
namespace Go.Proofs.Ytoacmcfildmijaa
open Go.ChangeShapes Go.WideShapes Go.ChangeAt Go.RowKit
attribute [local go_sem] nb_beq nb_bne nb_bne0 nb_mod8 nb_shr_8 nb_shr_16 nb_shr_24 bits_xor32 bits_xor8 bits_not32 BitVec.setWidth_eq nb_nonneg nb_lt8

theorem run_min_nat {P : Program} (a b c n : Nat) (hn : n = min (min a b) c) (ts : Array TypeId) (t : TypeId) (w : World) : (Builtin.min_ ts t #[.int .i64 (a : Int), .int .i64 (b : Int), .int .i64 (c : Int)]).run P w = .ok (.int .i64 (n : Int)) w := by
  rw [run_min_int3]
  congr 2
  subst hn
  split <;> split at * <;> omega

theorem Own.head {w : World} {base n : Nat} {A : Option Addr} {c : Nat} {xs : List Byte} (h : Own w base (.slice A n c) xs) (hn : 0 < n) : ∃ g, A = some ⟨g, 0, none⟩ ∧ base ≤ g ∧ g < w.heap.size := by
  rcases h.2 with ⟨h', h0⟩ | ⟨g, cap, cur, h', hb, hg, _⟩
  · simp at h'; omega
  · simp only [Value.slice.injEq] at h'
    exact ⟨g, h'.1, hb, (Array.getElem?_eq_some_iff.1 hg).1⟩
/-- A cell of the row, and a store into it. -/
theorem Own.cellset {w : World} {base n g : Nat} {c : Nat} {xs : List Byte} (h : Own w base (.slice (some ⟨g, 0, none⟩) n c) xs) {j : Nat} (hj : j < xs.length) :
    w.cell? ⟨g, j, none⟩ = some (vb xs[j]) ∧ w.frozen? ⟨g, j, none⟩ = false ∧ ∀ b : Byte, Own (w.setCell ⟨g, j, none⟩ (vb b)) base (.slice (some ⟨g, 0, none⟩) n c) (xs.set j b) := by
  obtain ⟨_, _, h3, hn, _⟩ := Own.info h
  subst hn
  have hr := h
  unfold Own OwnV at hr
  rw [vbs_length] at hr
  refine ⟨?_, World.ownsRow.frozenAt hr j, fun b => ?_⟩
  · rw [World.ownsRow.cellAt hr j (by omega), vbs_get? xs j hj]
  · have := (World.ownsRow.stored hr j (vb b)).1
    unfold Own OwnV
    rw [vbs_length, List.length_set, show vbs (xs.set j b) = (vbs xs).set j (vb b) from by simp [vbs, List.map_set]]
    exact this
theorem crc_SumN (xs : List Byte) (A : Option Addr) (n c : Nat) (w : World) (hn : n = xs.length) (hc : xs.length ≤ c) (hm : c ≤ maxLen) (hr : Rd w A xs) :
    Calls Try.prog 9 #[.slice A n c] w fun e w' => e = .returned (.int .u32 (nb (crcSum xs))) ∧ Below w.heap.size w w' := by
  subst hn; exact crc_Sum xs A c w hc hm hr
theorem kit_OwnN (xs : List Byte) (A : Option Addr) (n c : Nat) (w : World) (hn : n = xs.length) (hc : xs.length ≤ c) (hm : xs.length ≤ 140737488355328) (hr : Rd w A xs) :
    Calls Try.prog 11 #[.slice A n c] w fun e w' => ∃ A' c', e = .returned (.slice A' n c') ∧ Own w' w.heap.size (.slice A' n c') xs ∧ Below w.heap.size w w' := by
  subst hn; exact kit_Own xs A c w hc hm hr

set_option maxRecDepth 100000 in
set_option maxHeartbeats 4000000 in
theorem crcTells_few (A0 : Option Addr) (c0 : Nat) (x0 : List Byte) (A1 : Option Addr) (c1 : Nat) (x1 : List Byte) (A2 : Option Addr) (c2 : Nat) (x2 : List Byte) (at' : Int) (by' : BitVec 32) (w : World) (n : Nat) (hn : n = min (min x0.length x1.length) x2.length) (hn1 : 1 ≤ n) (hn2 : n ≤ 3000)
    (hc0 : x0.length ≤ c0) (hm0 : c0 ≤ maxLen) (hr0 : Rd w A0 x0) (hc1 : x1.length ≤ c1) (hm1 : c1 ≤ maxLen) (hr1 : Rd w A1 x1) (hc2 : x2.length ≤ c2) (hm2 : c2 ≤ maxLen) (hr2 : Rd w A2 x2) :
    Calls Try.prog 3 #[.slice A0 x0.length c0, .slice A1 x1.length c1, .slice A2 x2.length c2, .int .i64 at', .int .u32 (nb by')] w fun e w' => e = .returned (.bool true) ∧ Below w.heap.size w w' := by
  have HN := Lib.hid hn
  have hmin := run_min_nat (P := Try.prog) _ _ _ n hn
  have hn0 : ((n : Int) == 0) = false := beq_eq_false_iff_ne.2 (by omega)
  clear hn
  unfold maxLen at hm0 hm1 hm2
  go_enter Try.func3, Try.ntmps3
  go_wp2_with fail
  refine (crc_lives _).mono ?_
  rintro e w1 ⟨rfl, hb⟩
  have hB := (FB.refl w).call hb
  clear hb
  go_wp2_with fail
  obtain ⟨wt, rfl⟩ : ∃ wt : World, wt = w1 := ⟨_, rfl⟩
  have HB := Lib.hid hB
  have hlens : n ≤ x0.length ∧ n ≤ x1.length ∧ n ≤ x2.length := by have := HN.out; omega
  clear hB hmin
  go_loopw [12, 13] (fun v i wr => ∃ k : Nat, k ≤ n ∧ i = .int .i64 k ∧ Hid (Own wr wt.heap.size v (three x0 x1 x2 k)) ∧ Hid (Below wt.heap.size wt wr)) (fun _ i _ => n - (intOf i).toNat)
  case atStart => exact ⟨0, by omega, rfl, by rw [three_zero]; exact Own.nil _ _, Below.refl _ _⟩
  case round =>
    obtain ⟨k, hk, rfl, HO, HF0⟩ := hrel
    by_cases hlt : k < n
    · obtain ⟨b0, o0, rfl, hb0, hcell0⟩ := hr0.form (by omega)
      obtain ⟨b1, o1, rfl, hb1, hcell1⟩ := hr1.form (by omega)
      obtain ⟨b2, o2, rfl, hb2, hcell2⟩ := hr2.form (by omega)
      have HC0 := Lib.hid (hcell0 k (by omega))
      have HC1 := Lib.hid (hcell1 k (by omega))
      have HC2 := Lib.hid (hcell2 k (by omega))
      have HS := Lib.hid (three_succ x0 x1 x2 k (by omega) (by omega) (by omega))
      have HL := Lib.hid (three_length x0 x1 x2 k (by omega) (by omega) (by omega))
      have HR0 := Lib.hid hr0
      have HR1 := Lib.hid hr1
      have HR2 := Lib.hid hr2
      clear hcell0 hcell1 hcell2 hr0 hr1 hr2
      have hi0 : (k : Int) < x0.length := by omega
      have hi1 : (k : Int) < x1.length := by omega
      have hi2 : (k : Int) < x2.length := by omega
      generalize x0[k] = y0 at *
      generalize x1[k] = y1 at *
      generalize x2[k] = y2 at *
      go_wp2_with fail
      obtain ⟨W0, rfl⟩ : ∃ W0 : World, W0 = wr := ⟨_, rfl⟩
      have hq : ∀ W, Below wt.heap.size W0 W → W.cell? ⟨b0, o0 + k, none⟩ = some (.int .u8 (nb y0)) ∧ W.cell? ⟨b1, o1 + k, none⟩ = some (.int .u8 (nb y1)) ∧ W.cell? ⟨b2, o2 + k, none⟩ = some (.int .u8 (nb y2)) := fun W hW =>
        ⟨(HB.out.trans (HF0.out.trans hW)).cell HC0.out, (HB.out.trans (HF0.out.trans hW)).cell HC1.out, (HB.out.trans (HF0.out.trans hW)).cell HC2.out⟩
      have HQ := Lib.hid hq
      clear hq
      have HOd := Lib.hid (Own.drew HO.out)
      refine region_sch (E := Below (wt.heap.size)) ((0, true) :: (1, true) :: (2, true) :: (3, true) :: (4, true) :: (5, true) :: (6, true) :: (7, true) :: (8, true) :: (9, true) :: (10, true) :: (11, true) :: (12, true) :: (13, true) :: (14, true) :: (15, false) :: (16, false) :: (17, true) :: []) (by kernel_rfl) (Below.refl _) (fun _ _ _ h k => Below.trans h k) (fun _ _ d _ _ h => by cases d <;> exact h) (by kernel_rfl) ?_
      intro ops hops0
      have hops := Lib.hid hops0
      clear hops0
      have HF : Below (wt.heap.size) W0 W0.drew := (Below.refl _ _).drew
      generalize W0.drew = wF at *
      repeat (refine sch_take (o := ?_) (v := ?_) (a' := ?_) (at_of hops.out ?_) ?_ (fun W hW => ?_) ?_ ?_; rotate_left 3; (focus (simp only [List.getElem?_toArray, List.getElem?_cons_zero, List.getElem?_cons_succ]; rfl)); (focus (rw [hops.out]; rfl)); (focus (have q := HQ.out W (HF.trans hW); obtain ⟨q1, q2, q3⟩ := q; go_simp; with_reducible rfl)); (focus (simp only [Act.put, List.setIfInBounds_toArray, List.set_cons_zero, List.set_cons_succ]; rfl)))
      have hle : wt.heap.size ≤ wF.heap.size := (HF0.out.trans HF).size
      have HLE := Lib.hid hle
      clear hle
      (refine sch_run (o := ?_) (v := ?_) (a' := ?_) (w' := ?_) (at_of hops.out ?_) ?_ ?_ ?_ ?_ ?_; rotate_left 4; (focus (simp only [List.getElem?_toArray, List.getElem?_cons_zero, List.getElem?_cons_succ]; rfl)); (focus (rw [hops.out]; rfl)); (focus (go_simp; constructor <;> with_reducible rfl)); (focus (exact (Below.refl _ _).alloc HLE.out _)); (focus (simp only [Act.put, List.setIfInBounds_toArray, List.set_cons_zero, List.set_cons_succ]; rfl)))
      (refine sch_append_bytes (o := ?_) (at_of hops.out ?_) ?_ (.tmp 39) (.tmp 54) ?_ wt.heap.size u12 (three x0 x1 x2 k) (HOd.out.alloc _) ?_ (some ⟨wF.heap.size, 0, none⟩) 1 1 [y0 ^^^ y1 ^^^ y2] rfl ?_ (RdV.lit wF (vbs [y0 ^^^ y1 ^^^ y2]) _) (by rw [HL.out]; simp; omega) (by have := HLE.out; simp; omega) ?_; rotate_left 1; (focus (simp only [List.getElem?_toArray, List.getElem?_cons_zero, List.getElem?_cons_succ]; rfl)); (focus (rw [hops.out]; rfl)); (focus rfl); (focus rfl); (focus rfl))
      intro v' w' ho hg _
      have hE : Below wt.heap.size (wF.alloc (.cells #[.int .u8 (nb (y0 ^^^ y1 ^^^ y2))] 5)) w' := (Below.refl _ _).grown hg (by have := HLE.out; simp; omega) (Own.bnd HOd.out)
      have HO2 := Lib.hid ho
      have HE := Lib.hid hE
      clear ho hg hE
      refine ⟨HE.out, ?_⟩
      intro a' ha'
      simp only [Act.put, List.setIfInBounds_toArray, List.set_cons_zero, List.set_cons_succ] at ha'
      subst ha'
      repeat (refine sch_take (o := ?_) (v := ?_) (a' := ?_) (at_of hops.out ?_) ?_ (fun W hW => ?_) ?_ ?_; rotate_left 3; (focus (simp only [List.getElem?_toArray, List.getElem?_cons_zero, List.getElem?_cons_succ]; rfl)); (focus (rw [hops.out]; rfl)); (focus (go_simp; with_reducible rfl)); (focus (simp only [Act.put, List.setIfInBounds_toArray, List.set_cons_zero, List.set_cons_succ]; rfl)))
      refine sch_done ?_
      have HF2 := Lib.hid (HF0.out.trans (HF.trans (((Below.refl _ _).alloc HLE.out _).trans HE.out)))
      clear hops HF HQ
      go_wp2
      go_roundw
      case rel => exact ⟨k + 1, by omega, by go_num, by rw [HS.out]; exact HO2.out, HF2.out⟩
      case measure => simp [intOf]; omega
    · obtain rfl : k = n := by omega
      obtain ⟨A3, c3, h3v, h3c, h3m, h3r, -⟩ := Own.form HO.out
      rw [three_length x0 x1 x2 k (by omega) (by omega) (by omega)] at h3v h3c
      have hBw : FB w wr := HB.out.trans HF0.out
      have HBW := Lib.hid hBw
      subst h3v
      have hth := three_sum x0 x1 x2 k (by omega) (by omega) (by omega)
      have HTH := Lib.hid hth
      have H3R := Lib.hid h3r
      have HR0 := Lib.hid (hr0.take k)
      have HR1 := Lib.hid (hr1.take k)
      have HR2 := Lib.hid (hr2.take k)
      have hm0' : c0 ≤ maxLen := by unfold maxLen; exact hm0
      have hm1' : c1 ≤ maxLen := by unfold maxLen; exact hm1
      have hm2' : c2 ≤ maxLen := by unfold maxLen; exact hm2
      have hcut0 := cut_hi A0 c0 x0 k (by omega) hc0
      have hcut1 := cut_hi A1 c1 x1 k (by omega) hc1
      have hcut2 := cut_hi A2 c2 x2 k (by omega) hc2
      have hl0 : k = (x0.take k).length := by rw [List.length_take]; omega
      have hl1 : k = (x1.take k).length := by rw [List.length_take]; omega
      have hl2 : k = (x2.take k).length := by rw [List.length_take]; omega
      have hl3 : k = (three x0 x1 x2 k).length := (three_length x0 x1 x2 k (by omega) (by omega) (by omega)).symm
      have HL0 := Lib.hid hl0
      have HL1 := Lib.hid hl1
      have HL2 := Lib.hid hl2
      have HL3 := Lib.hid hl3
      clear hth h3r hr0 hr1 hr2 hl0 hl1 hl2 hl3 HO HF0 hBw
      go_wp2_with fail
      obtain ⟨W0, rfl⟩ : ∃ W0 : World, W0 = wr := ⟨_, rfl⟩
      refine region_sch (E := FB) ((0, true) :: (1, true) :: (2, true) :: (4, true) :: (5, true) :: (6, true) :: (9, true) :: (10, true) :: (11, true) :: (14, true) :: (3, false) :: (7, false) :: (8, true) :: (12, false) :: (13, true) :: (15, false) :: (16, true) :: []) (by kernel_rfl) FB.refl fb_trans (fun _ _ d _ _ h => by cases d <;> exact h) (by kernel_rfl) ?_
      intro ops hops0
      have hops := Lib.hid hops0
      clear hops0
      have HF : FB W0 W0.drew := (FB.refl _).drew
      generalize W0.drew = wF at *
      repeat (refine sch_take (o := ?_) (v := ?_) (a' := ?_) (at_of hops.out ?_) ?_ (fun W hW => ?_) ?_ ?_; rotate_left 3; (focus (simp only [List.getElem?_toArray, List.getElem?_cons_zero, List.getElem?_cons_succ]; rfl)); (focus (rw [hops.out]; rfl)); (focus (go_simp; with_reducible rfl)); (focus (simp only [Act.put, List.setIfInBounds_toArray, List.set_cons_zero, List.set_cons_succ]; rfl)))
      (refine sch_call (o := ?_) (f := ?_) (args := ?_) (at_of hops.out ?_) ?_ ?_ ?_; rotate_left 3; (focus (simp only [List.getElem?_toArray, List.getElem?_cons_zero, List.getElem?_cons_succ]; rfl)); (focus (rw [hops.out]; rfl)); (focus (go_simp; constructor <;> with_reducible rfl)); (first | ((with_reducible refine (crc_SumN (x0.take k) A0 k c0 _ HL0.out (by rw [← HL0.out]; omega) hm0' (HF.rd (HBW.out.rd HR0.out))).mono ?_); rintro e w' ⟨rfl, hb⟩; refine ⟨_, rfl, hb, ?_⟩; intro a' ha'; simp only [Act.put, List.setIfInBounds_toArray, List.set_cons_zero, List.set_cons_succ] at ha'; subst ha'; replace HF := HF.call hb; clear hb)))
      (refine sch_call (o := ?_) (f := ?_) (args := ?_) (at_of hops.out ?_) ?_ ?_ ?_; rotate_left 3; (focus (simp only [List.getElem?_toArray, List.getElem?_cons_zero, List.getElem?_cons_succ]; rfl)); (focus (rw [hops.out]; rfl)); (focus (go_simp; constructor <;> with_reducible rfl)); (first | ((with_reducible refine (crc_SumN (x1.take k) A1 k c1 _ HL1.out (by rw [← HL1.out]; omega) hm1' (HF.rd (HBW.out.rd HR1.out))).mono ?_); rintro e w' ⟨rfl, hb⟩; refine ⟨_, rfl, hb, ?_⟩; intro a' ha'; simp only [Act.put, List.setIfInBounds_toArray, List.set_cons_zero, List.set_cons_succ] at ha'; subst ha'; replace HF := HF.call hb; clear hb)))
      repeat (refine sch_take (o := ?_) (v := ?_) (a' := ?_) (at_of hops.out ?_) ?_ (fun W hW => ?_) ?_ ?_; rotate_left 3; (focus (simp only [List.getElem?_toArray, List.getElem?_cons_zero, List.getElem?_cons_succ]; rfl)); (focus (rw [hops.out]; rfl)); (focus (go_simp; with_reducible rfl)); (focus (simp only [Act.put, List.setIfInBounds_toArray, List.set_cons_zero, List.set_cons_succ]; rfl)))
      (refine sch_call (o := ?_) (f := ?_) (args := ?_) (at_of hops.out ?_) ?_ ?_ ?_; rotate_left 3; (focus (simp only [List.getElem?_toArray, List.getElem?_cons_zero, List.getElem?_cons_succ]; rfl)); (focus (rw [hops.out]; rfl)); (focus (go_simp; constructor <;> with_reducible rfl)); (first | ((with_reducible refine (crc_SumN (x2.take k) A2 k c2 _ HL2.out (by rw [← HL2.out]; omega) hm2' (HF.rd (HBW.out.rd HR2.out))).mono ?_); rintro e w' ⟨rfl, hb⟩; refine ⟨_, rfl, hb, ?_⟩; intro a' ha'; simp only [Act.put, List.setIfInBounds_toArray, List.set_cons_zero, List.set_cons_succ] at ha'; subst ha'; replace HF := HF.call hb; clear hb)))
      repeat (refine sch_take (o := ?_) (v := ?_) (a' := ?_) (at_of hops.out ?_) ?_ (fun W hW => ?_) ?_ ?_; rotate_left 3; (focus (simp only [List.getElem?_toArray, List.getElem?_cons_zero, List.getElem?_cons_succ]; rfl)); (focus (rw [hops.out]; rfl)); (focus (have q := HTH.out; go_simp; with_reducible rfl)); (focus (simp only [Act.put, List.setIfInBounds_toArray, List.set_cons_zero, List.set_cons_succ]; rfl)))
      (refine sch_call (o := ?_) (f := ?_) (args := ?_) (at_of hops.out ?_) ?_ ?_ ?_; rotate_left 3; (focus (simp only [List.getElem?_toArray, List.getElem?_cons_zero, List.getElem?_cons_succ]; rfl)); (focus (rw [hops.out]; rfl)); (focus (go_simp; constructor <;> with_reducible rfl)); (first | ((with_reducible refine (crc_SumN (three x0 x1 x2 k) A3 k c3 _ HL3.out (by rw [← HL3.out]; exact h3c) h3m (HF.rd H3R.out)).mono ?_); rintro e w' ⟨rfl, hb⟩; refine ⟨_, rfl, hb, ?_⟩; intro a' ha'; simp only [Act.put, List.setIfInBounds_toArray, List.set_cons_zero, List.set_cons_succ] at ha'; subst ha'; replace HF := HF.call hb; clear hb)))
      repeat (refine sch_take (o := ?_) (v := ?_) (a' := ?_) (at_of hops.out ?_) ?_ (fun W hW => ?_) ?_ ?_; rotate_left 3; (focus (simp only [List.getElem?_toArray, List.getElem?_cons_zero, List.getElem?_cons_succ]; rfl)); (focus (rw [hops.out]; rfl)); (focus (go_simp; with_reducible rfl)); (focus (simp only [Act.put, List.setIfInBounds_toArray, List.set_cons_zero, List.set_cons_succ]; rfl)))
      refine sch_done ?_
      have HF2 := Lib.hid (HBW.out.trans HF)
      clear hops HF HBW HB
      obtain ⟨kk, hkk, hkn⟩ : ∃ kk : Nat, pick at' (k : Int) = (kk : Int) ∧ kk < k := by
        have := pick_range at' (k : Int) (by omega)
        exact ⟨(pick at' (k : Int)).toNat, by omega, by omega⟩
      have HKK := Lib.hid hkk
      clear hkk
      have hpick : ∀ W, Calls Try.prog 10 #[.int .i64 at', .int .i64 (k : Int)] W fun e w' => e = .returned (.int .i64 (kk : Int)) ∧ W = w' := fun W => by
        rw [← HKK.out]; exact kit_Pick at' (k : Int) W (by omega) (by omega)
      have HPICK := Lib.hid hpick
      clear hpick
      go_wp2_with fail
      refine (HPICK.out _).mono ?_
      rintro e w6 ⟨rfl, rfl⟩
      generalize w' = w5 at *
      go_wp2_with fail
      refine (kit_OwnN (x0.take k) A0 k c0 _ HL0.out (by rw [← HL0.out]; omega) (by rw [← HL0.out]; omega) (HF2.out.rd HR0.out)).mono ?_
      rintro e w6 ⟨A4, c4, rfl, ho, hb⟩
      obtain ⟨g, rfl, hg1, hg2⟩ := Own.head ho (by omega)
      have HB5 := Lib.hid hb
      have HO5 := Lib.hid ho
      clear hb ho
      go_wp2_with fail
      go_loopw [16, 17, 18] (fun ch i _ wr => ∃ j : Nat, j ≤ 4 ∧ kk + j ≤ k ∧ i = .int .i64 j ∧ ch = .bool (some8 by' j) ∧ Hid (Own wr w5.heap.size (.slice (some ⟨g, 0, none⟩) k c4) (chg (x0.take k) kk by' j)) ∧ Hid (Below w5.heap.size w6 wr)) (fun _ i _ _ => 4 - (intOf i).toNat)
      case atStart => exact ⟨0, by omega, by omega, rfl, rfl, by rw [chg_zero]; exact HO5.out, Below.refl _ _⟩
      case round =>
        obtain ⟨j, hj4, hjk, rfl, rfl, HO6, HB6⟩ := hrel
        by_cases hlt : j < 4 ∧ kk + j < k
        · obtain ⟨hlt4, hltk⟩ := hlt
          obtain ⟨hq, hfz, hst⟩ := Own.cellset HO6.out (by rw [chg_length, ← HL0.out]; exact hltk)
          rw [chg_at _ _ _ _ (by rw [← HL0.out]; exact hltk)] at hq
          have HS := Lib.hid (chg_set (x0.take k) kk by' j (by rw [← HL0.out]; exact hltk))
          have HS8 := Lib.hid (some8_succ by' j)
          have HST := Lib.hid hst
          clear hst
          generalize (x0.take k)[kk + j]'(by rw [← HL0.out]; exact hltk) = y0 at *
          unfold vb at hq
          have hcase : j = 0 ∨ j = 1 ∨ j = 2 ∨ j = 3 := by omega
          have HLE := Lib.hid (show w5.heap.size ≤ g from hg1)
          rcases hcase with rfl | rfl | rfl | rfl
          · simp only [Nat.add_zero] at hq hfz
            have hd0 : dby by' 0 = by'.setWidth 8 := by simp [dby]
            have HD0 := Lib.hid hd0
            clear hd0
            go_wp2
            all_goals
              go_roundw
              case rel =>
                refine ⟨1, by omega, by omega, by go_num, by rw [HS8.out, HD0.out]; simp [*], ?_, HB6.out.setCell HLE.out _⟩
                have := HST.out (y0 ^^^ dby by' 0)
                rw [HS.out, HD0.out] at this
                exact Lib.hid (by simpa [vb] using this)
              case measure => simp [intOf]
          · cases h8 : some8 by' 1
            all_goals
              go_wp2
              all_goals
                go_roundw
                case rel => exact ⟨2, by omega, by omega, by go_num, by rw [HS8.out, h8]; simp [dby], by rw [← HS.out]; exact HST.out (y0 ^^^ dby by' 1), HB6.out.setCell HLE.out _⟩
                case measure => simp [intOf]
          · cases h8 : some8 by' 2
            all_goals
              go_wp2
              all_goals
                go_roundw
                case rel => exact ⟨3, by omega, by omega, by go_num, by rw [HS8.out, h8]; simp [dby], by rw [← HS.out]; exact HST.out (y0 ^^^ dby by' 2), HB6.out.setCell HLE.out _⟩
                case measure => simp [intOf]
          · cases h8 : some8 by' 3
            all_goals
              go_wp2
              all_goals
                go_roundw
                case rel => exact ⟨4, by omega, by omega, by go_num, by rw [HS8.out, h8]; simp [dby], by rw [← HS.out]; exact HST.out (y0 ^^^ dby by' 3), HB6.out.setCell HLE.out _⟩
                case measure => simp [intOf]
        · have hsum := sum_chgB (x0.take k) kk by' j (by rw [← HL0.out]; exact hjk) hj4
          have HSUM := Lib.hid hsum
          have hln := HL0.out
          have hlc : k = (chg (x0.take k) kk by' j).length := by rw [chg_length]; exact hln
          have HLC := Lib.hid hlc
          have HF6 := Lib.hid (show FB w wr from HF2.out.call (HB5.out.trans HB6.out))
          clear hsum hln hlc
          obtain ⟨h6c, h6m, h6r, -, -⟩ := Own.info HO6.out
          have H6R := Lib.hid h6r
          clear h6r
          have hcase : ¬ j < 4 ∨ (j < 4 ∧ ¬ kk + j < k) := by omega
          clear hlt
          rcases hcase with h4 | ⟨h4, h5⟩
          all_goals
            go_wp2_with fail
            obtain ⟨W0, rfl⟩ : ∃ W0 : World, W0 = wr := ⟨_, rfl⟩
            refine region_sch (E := FB) ((0, true) :: (2, true) :: (3, true) :: (4, true) :: (7, true) :: (8, true) :: (1, false) :: (5, false) :: (6, true) :: (9, true) :: (10, true) :: []) (by kernel_rfl) FB.refl fb_trans (fun _ _ d _ _ h => by cases d <;> exact h) (by kernel_rfl) ?_
            intro ops hops0
            have hops := Lib.hid hops0
            clear hops0
            have HF : FB W0 W0.drew := (FB.refl _).drew
            generalize W0.drew = wF at *
            repeat (refine sch_take (o := ?_) (v := ?_) (a' := ?_) (at_of hops.out ?_) ?_ (fun W hW => ?_) ?_ ?_; rotate_left 3; (focus (simp only [List.getElem?_toArray, List.getElem?_cons_zero, List.getElem?_cons_succ]; rfl)); (focus (rw [hops.out]; rfl)); (focus (go_simp; with_reducible rfl)); (focus (simp only [Act.put, List.setIfInBounds_toArray, List.set_cons_zero, List.set_cons_succ]; rfl)))
            (refine sch_call (o := ?_) (f := ?_) (args := ?_) (at_of hops.out ?_) ?_ ?_ ?_; rotate_left 3; (focus (simp only [List.getElem?_toArray, List.getElem?_cons_zero, List.getElem?_cons_succ]; rfl)); (focus (rw [hops.out]; rfl)); (focus (go_simp; constructor <;> with_reducible rfl)); (first | ((with_reducible refine (crc_SumN (chg (x0.take k) kk by' j) (some ⟨g, 0, none⟩) k c4 _ HLC.out h6c h6m (HF.rd H6R.out)).mono ?_); rintro e w' ⟨rfl, hb⟩; refine ⟨_, rfl, hb, ?_⟩; intro a' ha'; simp only [Act.put, List.setIfInBounds_toArray, List.set_cons_zero, List.set_cons_succ] at ha'; subst ha'; replace HF := HF.call hb; clear hb)))
            (refine sch_call (o := ?_) (f := ?_) (args := ?_) (at_of hops.out ?_) ?_ ?_ ?_; rotate_left 3; (focus (simp only [List.getElem?_toArray, List.getElem?_cons_zero, List.getElem?_cons_succ]; rfl)); (focus (rw [hops.out]; rfl)); (focus (go_simp; constructor <;> with_reducible rfl)); (first | ((with_reducible refine (crc_SumN (x0.take k) A0 k c0 _ HL0.out (by rw [← HL0.out]; omega) hm0' (HF.rd (HF6.out.rd HR0.out))).mono ?_); rintro e w' ⟨rfl, hb⟩; refine ⟨_, rfl, hb, ?_⟩; intro a' ha'; simp only [Act.put, List.setIfInBounds_toArray, List.set_cons_zero, List.set_cons_succ] at ha'; subst ha'; replace HF := HF.call hb; clear hb)))
            repeat (refine sch_take (o := ?_) (v := ?_) (a' := ?_) (at_of hops.out ?_) ?_ (fun W hW => ?_) ?_ ?_; rotate_left 3; (focus (simp only [List.getElem?_toArray, List.getElem?_cons_zero, List.getElem?_cons_succ]; rfl)); (focus (rw [hops.out]; rfl)); (focus (have q := HSUM.out; go_simp; with_reducible rfl)); (focus (simp only [Act.put, List.setIfInBounds_toArray, List.set_cons_zero, List.set_cons_succ]; rfl)))
            refine sch_done ?_
            go_wp2
            go_ret
            exact ⟨by simp, HF6.out.trans HF⟩

set_option maxRecDepth 100000 in
set_option maxHeartbeats 1000000 in
theorem crcTells_much (A0 : Option Addr) (c0 : Nat) (x0 : List Byte) (A1 : Option Addr) (c1 : Nat) (x1 : List Byte) (A2 : Option Addr) (c2 : Nat) (x2 : List Byte) (at' : Int) (by' : BitVec 32) (w : World) (n : Nat) (hn : n = min (min x0.length x1.length) x2.length) (hn1 : n = 0 ∨ 3000 < n)
    (hm0 : x0.length ≤ 9223372036854775807) (hm1 : x1.length ≤ 9223372036854775807) (hm2 : x2.length ≤ 9223372036854775807) :
    Calls Try.prog 3 #[.slice A0 x0.length c0, .slice A1 x1.length c1, .slice A2 x2.length c2, .int .i64 at', .int .u32 (nb by')] w fun e w' => e = .returned (.bool true) ∧ Below w.heap.size w w' := by
  have hmin := run_min_nat (P := Try.prog) _ _ _ n hn
  have hnn : n ≤ 9223372036854775807 := by omega
  clear hn
  rcases hn1 with rfl | hn1
  all_goals
    go_enter Try.func3, Try.ntmps3
    go_wp2_with fail
    refine (crc_lives _).mono ?_
    rintro e w1 ⟨rfl, hb⟩
    have hB := (FB.refl w).call hb
    clear hb
    go_wp2
    go_ret
    exact ⟨rfl, hB⟩

theorem crcTells_walk (A0 : Option Addr) (c0 : Nat) (x0 : List Byte) (A1 : Option Addr) (c1 : Nat) (x1 : List Byte) (A2 : Option Addr) (c2 : Nat) (x2 : List Byte) (at' : Int) (by' : BitVec 32) (w : World)
    (hc0 : x0.length ≤ c0) (hm0 : c0 ≤ maxLen) (hr0 : Rd w A0 x0) (hc1 : x1.length ≤ c1) (hm1 : c1 ≤ maxLen) (hr1 : Rd w A1 x1) (hc2 : x2.length ≤ c2) (hm2 : c2 ≤ maxLen) (hr2 : Rd w A2 x2) (_hw : -9223372036854775808 ≤ at' ∧ at' ≤ 9223372036854775807) :
    Calls Try.prog 3 #[.slice A0 x0.length c0, .slice A1 x1.length c1, .slice A2 x2.length c2, .int .i64 at', .int .u32 (nb by')] w fun e w' => e = .returned (.bool true) ∧ Below w.heap.size w w' := by
  have e := maxLen_eq
  by_cases h : 1 ≤ min (min x0.length x1.length) x2.length ∧ min (min x0.length x1.length) x2.length ≤ 3000
  · exact crcTells_few A0 c0 x0 A1 c1 x1 A2 c2 x2 at' by' w _ rfl h.1 h.2 hc0 hm0 hr0 hc1 hm1 hr1 hc2 hm2 hr2
  · exact crcTells_much A0 c0 x0 A1 c1 x1 A2 c2 x2 at' by' w _ rfl (by omega) (by omega) (by omega) (by omega)
end Go.Proofs.Ytoacmcfildmijaa
