/- pool: the walk through room. -/
import Derived.Test.YtoidlmhebnlnbaaPlB
import Derived.Test.YtoidlmhebnlnbaaSchB
import Derived.WalkMore
set_option linter.unusedVariables false
set_option linter.unusedSimpArgs false
namespace Go.Proofs.Ytoidlmhebnlnbaa
open Go.ChangeShapes Go.WideShapes Go.ChangeAt Go.RowKit
attribute [local go_sem] nb_nonneg nb_lt8 nb_lt64
set_option maxRecDepth 100000

theorem fr_size : (Try.prog.info? 63).map (·.size) = some 6 := by kernel_rfl
section
variable {w w' W : World} {F : List Nat} {g n gp gf hand : Nat} {xs : List FrX} {D : DiskSt}
/-- A whole frame is stored. -/
theorem Pol.storeF (h : Pol W F g n gp gf xs hand D) (i : Nat) (hi : i < xs.length) (x : FrX) :
    (Instr.storeAt 63 (.pointer (some ⟨gf, i * 6, none⟩)) (.agg (frCs x).toArray)).run Try.prog W = .ok () (W.setRow gf (frFlat (xs.set i x)).toArray) := by
  have one : ∀ v ∈ frCs x, v.oneCell' = true := fun v hv => by
    unfold frCs at hv
    simp only [List.mem_cons, List.not_mem_nil, or_false] at hv
    rcases hv with rfl | rfl | rfl | rfl | rfl | rfl <;> rfl
  obtain ⟨t, ht, hs⟩ : ∃ t, Try.prog.info? 63 = some t ∧ t.size = 6 := by
    cases hq : Try.prog.info? 63 with
    | none => have := fr_size; rw [hq] at this; cases this
    | some t => have := fr_size; rw [hq] at this; exact ⟨t, rfl, by simpa using this⟩
  have hl := frFlat_len xs
  have h0 := run_storeCells_at (P := Try.prog) gf (i * 6) 63 (frCs x) 0 (frFlat xs).toArray W h.frow (by have : (frCs x).length = 6 := rfl; simp only [List.size_toArray]; omega) one
  have e0 : ((frFlat xs).toArray.toList.take (i * 6 + 0) ++ frCs x ++ (frFlat xs).toArray.toList.drop (i * 6 + 0 + (frCs x).length)) = frFlat (xs.set i x) := by
    rw [← frFlat_set xs i hi x]
    rfl
  rw [e0] at h0
  simp only [Instr.storeAt, Instr.sureAddr, Sem.run_bind, Sem.run_pure, Result.andThen]
  simp [storeVar, sizeOf, typeInfo, ht, hs, Value.cells, h0, show (frCs x).length = 6 from rfl]
theorem Pol.wholeF (h : Pol W F g n gp gf xs hand D) (i : Nat) (x : FrX) (hx : Rd W x.A x.f.b ∧ x.f.b.length ≤ x.c ∧ x.c ≤ maxLen ∧ (∀ ad, x.A = some ad → ad.block < W.heap.size ∧ ad.block ∉ F ∧ ad.block ≠ gp ∧ ad.block ≠ gf) ∧ x.f.b.length ≤ 100000000000) :
    Pol (W.setRow gf (frFlat (xs.set i x)).toArray) F g n gp gf (xs.set i x) hand D :=
  h.frame i x ⟨rfl, rfl, rfl, by simp, fun k _ hk => setRow_other W gf k _ (fun e => hk (by simp [e]))⟩ (setRow_heap W gf _ _ _ _ h.frow) hx
theorem frx0_ok (W : World) (F : List Nat) (gp gf : Nat) : Rd W frx0.A frx0.f.b ∧ frx0.f.b.length ≤ frx0.c ∧ frx0.c ≤ maxLen ∧ (∀ ad, frx0.A = some ad → ad.block < W.heap.size ∧ ad.block ∉ F ∧ ad.block ≠ gp ∧ ad.block ≠ gf) ∧ frx0.f.b.length ≤ 100000000000 :=
  ⟨Rd.nil _ _, by simp [frx0, frm0], by simp [frx0, maxLen], (fun ad h => by cases h), by simp [frx0, frm0]⟩
theorem TS.row (F : List Nat) (g : Nat) (w : World) (cs : Array Value) (h : g ∈ F) : TS F w (w.setRow g cs) :=
  TS.tb (F := F) ⟨rfl, rfl, rfl, by simp, fun k _ hk => setRow_other w g k cs (fun e => hk (by simp [e]))⟩ h
set_option maxHeartbeats 2000000 in
theorem pl_room (h : Pol w F g n gp gf xs hand D) :
    Calls Try.prog 34 #[.pointer (some ⟨gp, 0, none⟩)] w fun e w' => e = .returned (.tuple #[plPtr gf (plRoom n (plOf xs hand D)).1.1, .int .i64 (plRoom n (plOf xs hand D)).1.2]) ∧ PolR w F g n gp gf (plRoom n (plOf xs hand D)).2 w' ∧ ∀ i, (plRoom n (plOf xs hand D)).1.1 = some i → i < xs.length := by
  obtain ⟨p0, p1, p2⟩ := h.pcells
  have H := Lib.hid h
  have HN := Lib.hid h.n256
  obtain ⟨R, hR⟩ : ∃ R, R = plRoom n (plOf xs hand D) := ⟨_, rfl⟩
  rw [← hR]
  have HR := Lib.hid hR
  clear h hR
  go_enter Try.func34, Try.ntmps34
  go_wp2_with fail
  go_step3
  go_wp2_with fail
  go_loop [4, 12] (fun _ i => ∃ j : Nat, j ≤ xs.length ∧ i = .int .i64 j ∧ Hid (plEmpty (xs.map (·.f)) = plIx (fun f => !f.is) ((xs.map (·.f)).drop j) j)) (fun _ i => xs.length - (intOf i).toNat)
  case atStart => exact ⟨0, by omega, rfl, Lib.hid rfl⟩
  case round =>
    obtain ⟨j, hj, rfl, HX⟩ := hrel
    by_cases hlt : j < xs.length
    · have hz : (j : Int) < (xs.length : Int) := by omega
      obtain ⟨c0, -, -, -, -, -⟩ := H.out.cells j hlt
      have hx := HX.out
      rw [plIx_drop (by rw [List.length_map]; exact hlt), List.getElem_map] at hx
      generalize xs[j].f.is = is at *
      have HJ := Lib.hid hlt
      have hwk : IntKind.i64.wrap ((j : Int) + 1) = (j : Int) + 1 := by rw [IntKind.wrap_i64]; have := HN.out; omega
      cases is with
      | false =>
        have HX2 := Lib.hid (show R = ((some j, 0), plOf xs hand D) from by
          rw [HR.out]
          unfold plRoom
          rw [show plEmpty (plOf xs hand D).fs = some j from hx.trans (by rw [if_pos (by simp)])])
        clear hx HX hlt hj
        go_wp2
        go_ret2
        rw [HX2.out]
        exact ⟨rfl, ⟨F, xs, H.out, rfl, fun x hx => .inl hx, TS.refl _ _⟩, fun i hi => by cases hi; exact HJ.out⟩
      | true =>
        have HX2 := Lib.hid (hx.trans (by rw [if_neg (by simp)]))
        clear hx HX hlt hj
        go_wp2
        go_round
        case rel => exact ⟨j + 1, by have := HJ.out; omega, by go_num, HX2⟩
        case measure => (show xs.length - ((j : Int) + 1).toNat < xs.length - ((j : Int)).toNat; have := HJ.out; omega)
    · have hz : ¬ (j : Int) < (xs.length : Int) := by omega
      have HX2 := Lib.hid (show R = plRound n (2 * xs.length) (plOf xs hand D) from by
        rw [HR.out]
        unfold plRoom
        rw [show plEmpty (plOf xs hand D).fs = none from by have := HX.out; rw [List.drop_of_length_le (by rw [List.length_map]; omega)] at this; exact this]
        show plRound n (2 * (xs.map (·.f)).length) _ = _
        rw [List.length_map])
      have hw2 : IntKind.i64.wrap (2 * (xs.length : Int)) = 2 * (xs.length : Int) := by rw [IntKind.wrap_i64]; have := HN.out; omega
      clear HX hlt hj HR
      go_wp2_with fail
      go_step3
      go_wp2_with fail
      clear p0 p1 p2 hz hw2
      go_loopw [5, 6, 38] (fun _ _ i wr => ∃ (k : Nat) (ys : List FrX) (hd : Nat), k ≤ 2 * xs.length ∧ i = .int .i64 k ∧ Hid (ys.length = xs.length) ∧ Hid (Pol wr F g n gp gf ys hd D) ∧ Hid (R = plRound n (2 * xs.length - k) (plOf ys hd D)) ∧ Hid (TS (gp :: gf :: F) w wr)) (fun _ _ i _ => 2 * xs.length - (intOf i).toNat)
      case atStart => exact ⟨0, xs, hand, by omega, rfl, Lib.hid rfl, H, HX2, Lib.hid (TS.refl _ _)⟩
      case round =>
        clear HX2
        obtain ⟨k, ys, hd, hk, rfl, HYL, HP, HQ, HT⟩ := hrel
        by_cases hlt : k < 2 * xs.length
        · have hz : (k : Int) < 2 * (xs.length : Int) := by omega
          have HK := Lib.hid hlt
          clear hlt hk
          go_upto_region 9 with fail
          have HLP := Lib.hid (show 0 < xs.length from by have := HP.out.hl; have := HYL.out; omega)
          have HHD := Lib.hid (show hd < xs.length from by have := HP.out.hl; have := HYL.out; omega)
          have HHY := Lib.hid (show hd < ys.length from HP.out.hl)
          have hh0 : (hd : Int) < (ys.length : Int) := by have := HP.out.hl; omega
          have hrj := HQ.out
          rw [show 2 * xs.length - k = (2 * xs.length - (k + 1)) + 1 from by have := HK.out; omega, plRound] at hrj
          have hfx : (plOf ys hd D).fs.getD (plOf ys hd D).hand frm0 = (ys[hd]'(HHY.out)).f := plGetD ys hd HHY.out
          rw [hfx] at hrj
          have hnx : plNext (plOf ys hd D) = (hd + 1) % xs.length := by unfold plNext plOf; simp only [List.length_map]; rw [HYL.out]
          rw [hnx] at hrj
          have HRJ := Lib.hid hrj
          clear hrj hfx hnx HQ
          obtain ⟨W0, hW0⟩ : ∃ W0 : World, W0 = wr := ⟨_, rfl⟩
          rw [← hW0]
          refine region_sch (E := FB) ((0, true) :: (1, true) :: (2, true) :: (3, true) :: (4, true) :: (5, true) :: (6, true) :: (7, true) :: (8, true) :: (9, true) :: []) (by kernel_rfl) FB.refl fb_trans (fun _ _ d _ _ h => by cases d <;> exact h) (by kernel_rfl) ?_
          intro ops hops0
          have hops := Lib.hid hops0
          clear hops0
          have HF : FB W0 W0.drew := (FB.refl _).drew
          generalize W0.drew = wF at *
          have HP1 := Lib.hid (HP.out.fb (show FB wr wF from by rw [← hW0]; exact HF))
          have HT1 := Lib.hid (HT.out.then (TS.of (show FB wr wF from by rw [← hW0]; exact HF)))
          clear hW0 HF HP HT
          have K := Lib.hid HP1.out.pcells
          rw [HYL.out] at K hh0
          repeat (refine sch_take (o := ?_) (v := ?_) (a' := ?_) (at_of hops.out ?_) ?_ (fun W hW => ?_) ?_ ?_; rotate_left 3; (focus (simp only [List.getElem?_toArray, List.getElem?_cons_zero, List.getElem?_cons_succ]; rfl)); (focus (rw [hops.out]; rfl)); (focus (have u0 := FB.cell hW K.out.1; have u1 := FB.cell hW K.out.2.1; have u2 := FB.cell hW K.out.2.2; go_simp; with_reducible rfl)); (focus (simp only [Act.put, List.setIfInBounds_toArray, List.set_cons_zero, List.set_cons_succ]; rfl)))
          refine sch_done ?_
          clear hops K hh0
          generalize wF = wa at *
          have HXD := Lib.hid (HP1.out.rd (ys[hd]'(HHY.out)) (List.getElem_mem HHY.out))
          have HXB := Lib.hid (HP1.out.bd (ys[hd]'(HHY.out)) (List.getElem_mem HHY.out))
          obtain ⟨c0, c1, c2, c3, c4, c5⟩ := HP1.out.cells hd HHY.out
          have HSU := Lib.hid (fun (W : World) (h' : Pol W F g n gp gf ys hd D) => h'.set1 hd HHY.out 4 (by omega) (.bool false) { (ys[hd]'(HHY.out)).f with used := false } rfl rfl)
          have HFZ := Lib.hid (frozen_row _ HP1.out.frow (hd * 6 + 4))
          have HSV := Lib.hid (fun (W : World) (h' : Pol W F g n gp gf ys hd D) => pl_save h' hd HHY.out)
          have HYX := Lib.hid (show (ys.map (·.f)).length = xs.length from by rw [List.length_map]; exact HYL.out)
          have hw1 : IntKind.i64.wrap ((hd : Int) + 1) = (hd : Int) + 1 := by rw [IntKind.wrap_i64]; have := HHD.out; have := HN.out; omega
          obtain ⟨nx, HNX, hnl⟩ : ∃ nx : Nat, Hid (nx = (hd + 1) % xs.length) ∧ nx < xs.length := ⟨_, Lib.hid rfl, Nat.mod_lt _ HLP.out⟩
          have HNL := Lib.hid hnl
          have hw2 : ((hd : Int) + 1).tmod (xs.length : Int) = (nx : Int) := by
            rw [Int.tmod_eq_emod_of_nonneg (by omega), HNX.out]
            exact (show (((hd + 1) % xs.length : Nat) : Int) = ((hd + 1 : Nat) : Int) % (xs.length : Int) from by first | exact Int.natCast_emod _ _ | exact Int.natCast_mod _ _ | exact Int.ofNat_emod _ _).symm
          have hw3 : IntKind.i64.wrap (nx : Int) = (nx : Int) := by rw [IntKind.wrap_i64]; have := HN.out; omega
          rw [← HNX.out] at HRJ
          clear hnl
          have hw5 : ¬ xs = [] := fun e => by have := HLP.out; rw [e] at this; simp at this
          have hwk : IntKind.i64.wrap ((k : Int) + 1) = (k : Int) + 1 := by rw [IntKind.wrap_i64]; have := HK.out; have := HN.out; omega
          have hw4 : ((xs.length : Int) == 0) = false := by rw [beq_eq_false_iff_ne]; have := HLP.out; omega
          generalize hx : (ys[hd]'(HHY.out)) = x at *
          by_cases hp : 0 < x.f.pins
          · have HQ2 := Lib.hid (HRJ.out.trans (if_pos hp))
            clear hx HRJ HSU HSV HXD HXB HFZ
            go_upto_region 19 with fail
            clear c0 c1 c2 c3 c4 c5 hp
            obtain ⟨W0, hW0⟩ : ∃ W0 : World, W0 = wa := ⟨_, rfl⟩
            rw [← hW0]
            refine region_schL (E := FB) 14 ((0, true) :: (1, true) :: (2, true) :: (3, true) :: (4, true) :: (5, true) :: (6, true) :: (7, true) :: (8, true) :: (9, true) :: (10, true) :: (11, false) :: (12, false) :: (13, false) :: []) (by kernel_rfl) FB.refl fb_trans (fun _ _ d _ _ h => by cases d <;> exact h) (by kernel_rfl) ?_
            intro ops hops0
            have hops := Lib.hid hops0
            clear hops0
            have HF : FB W0 W0.drew := (FB.refl _).drew
            generalize W0.drew = wF at *
            have HPZq := Lib.hid (HP1.out.fb (show FB wa wF from by rw [← hW0]; exact HF))
            have HPZf := Lib.hid (show FB wa wF from by rw [← hW0]; exact HF)
            clear hW0 HF
            have K := Lib.hid HPZq.out.pcells
            rw [HYL.out] at K
            have HK0 := K
            repeat (refine sch_take (o := ?_) (v := ?_) (a' := ?_) (at_of hops.out ?_) ?_ (fun W hW => ?_) ?_ ?_; rotate_left 3; (focus (simp only [List.getElem?_toArray, List.getElem?_cons_zero, List.getElem?_cons_succ]; rfl)); (focus (rw [hops.out]; rfl)); (focus (have u0 := FB.cell hW K.out.1; have u1 := FB.cell hW K.out.2.1; have u2 := FB.cell hW K.out.2.2; go_simp; with_reducible rfl)); (focus (simp only [Act.put, List.setIfInBounds_toArray, List.set_cons_zero, List.set_cons_succ]; rfl)))
            repeat (refine sch_run (o := ?_) (v := ?_) (a' := ?_) (w' := ?_) (at_of hops.out ?_) ?_ ?_ ?_ ?_ ?_; rotate_left 4; (focus (simp only [List.getElem?_toArray, List.getElem?_cons_zero, List.getElem?_cons_succ]; rfl)); (focus (rw [hops.out]; rfl)); (focus (go_simp; constructor <;> with_reducible rfl)); (focus (exact FB.refl _)); (focus (simp only [Act.put, List.setIfInBounds_toArray, List.set_cons_zero, List.set_cons_succ]; rfl)))
            have u2 := K.out.2.2
            have u3 := frozen_row _ HPZq.out.prow 2
            (refine schL_store (o := ?_) (w' := wF.setCell ⟨gp, 2, none⟩ (.int .i64 (nx : Nat))) (at_of hops.out ?_) ?_ 3 (.tmp 103) (.tmp 101) ?_ (.pointer (some ⟨gp, 2, none⟩)) (.int .i64 (nx : Nat)) ?_ ?_ ?_ ?_; rotate_left 1; (focus (simp only [List.getElem?_toArray, List.getElem?_cons_zero, List.getElem?_cons_succ]; rfl)); (focus (rw [hops.out]; rfl)); (focus rfl); (focus rfl); (focus (first | rfl | (simp [Act.eval] <;> done))); (focus (go_simp)))
            have HPZ := Lib.hid (HPZq.out.moved nx (by rw [HYL.out]; exact HNL.out))
            have HPZt := Lib.hid (show TS (gp :: gf :: F) wa (wF.setCell ⟨gp, 2, none⟩ (.int .i64 (nx : Nat))) from (TS.of HPZf.out).then (TS.tb (TB.set (g := gp) wF 2 _) (by simp)))
            clear u2 u3 K HK0 hops HPZq HPZf HP1
            go_wp2_with fail
            go_roundw
            case rel => exact ⟨k + 1, ys, nx, by have := HK.out; omega, by go_num, HYL, HPZ, HQ2, Lib.hid (HT1.out.then HPZt.out)⟩
            case measure => (show 2 * xs.length - ((k : Int) + 1).toNat < 2 * xs.length - ((k : Int)).toNat; have := HK.out; omega)
          have hrj := HRJ.out.trans (if_neg hp)
          cases hu : x.f.used with
          | true =>
            rw [hu, if_pos rfl] at hrj
            rw [hu] at c4
            have HPU := Lib.hid (HSU.out _ HP1.out)
            have HZF := Lib.hid (show (ys.map (·.f)).set hd { x.f with used := false } = (ys.set hd ⟨{ x.f with used := false }, x.A, x.c⟩).map (·.f) from by rw [List.map_set])
            have HZL := Lib.hid (show (ys.set hd ⟨{ x.f with used := false }, x.A, x.c⟩).length = xs.length from by rw [List.length_set]; exact HYL.out)
            obtain ⟨zs, hzs⟩ : ∃ zs, zs = ys.set hd ⟨{ x.f with used := false }, x.A, x.c⟩ := ⟨_, rfl⟩
            rw [← hzs] at HPU HZF HZL
            have HQ2 := Lib.hid (show R = plRound n (2 * xs.length - (k + 1)) (plOf zs nx D) from by
              rw [hrj]
              unfold plOf
              rw [← HZF.out])
            obtain ⟨wb, hwb⟩ : ∃ wb : World, wb = wa.setCell ⟨gf, hd * 6 + 4, none⟩ (.bool false) := ⟨_, rfl⟩
            rw [← hwb] at HPU
            have HTB := Lib.hid (show TS (gp :: gf :: F) wa wb from by rw [hwb]; exact TS.tb (TB.set (g := gf) wa (hd * 6 + 4) (.bool false)) (by simp))
            have HWB := Lib.hid hwb
            have u4 := HFZ.out
            clear hrj hzs hwb hx HRJ HSU HSV HXD HXB HYX
            go_upto_region 19 with fail
            rw [← HWB.out]
            clear c0 c1 c2 c3 c4 c5 hp hu u4 HWB HFZ HP1
            obtain ⟨W0, hW0⟩ : ∃ W0 : World, W0 = wb := ⟨_, rfl⟩
            rw [← hW0]
            refine region_schL (E := FB) 14 ((0, true) :: (1, true) :: (2, true) :: (3, true) :: (4, true) :: (5, true) :: (6, true) :: (7, true) :: (8, true) :: (9, true) :: (10, true) :: (11, false) :: (12, false) :: (13, false) :: []) (by kernel_rfl) FB.refl fb_trans (fun _ _ d _ _ h => by cases d <;> exact h) (by kernel_rfl) ?_
            intro ops hops0
            have hops := Lib.hid hops0
            clear hops0
            have HF : FB W0 W0.drew := (FB.refl _).drew
            generalize W0.drew = wF at *
            have HPZq := Lib.hid (HPU.out.fb (show FB wb wF from by rw [← hW0]; exact HF))
            have HPZf := Lib.hid (show FB wb wF from by rw [← hW0]; exact HF)
            clear hW0 HF
            have K := Lib.hid HPZq.out.pcells
            rw [HZL.out] at K
            have HK0 := K
            repeat (refine sch_take (o := ?_) (v := ?_) (a' := ?_) (at_of hops.out ?_) ?_ (fun W hW => ?_) ?_ ?_; rotate_left 3; (focus (simp only [List.getElem?_toArray, List.getElem?_cons_zero, List.getElem?_cons_succ]; rfl)); (focus (rw [hops.out]; rfl)); (focus (have u0 := FB.cell hW K.out.1; have u1 := FB.cell hW K.out.2.1; have u2 := FB.cell hW K.out.2.2; go_simp; with_reducible rfl)); (focus (simp only [Act.put, List.setIfInBounds_toArray, List.set_cons_zero, List.set_cons_succ]; rfl)))
            repeat (refine sch_run (o := ?_) (v := ?_) (a' := ?_) (w' := ?_) (at_of hops.out ?_) ?_ ?_ ?_ ?_ ?_; rotate_left 4; (focus (simp only [List.getElem?_toArray, List.getElem?_cons_zero, List.getElem?_cons_succ]; rfl)); (focus (rw [hops.out]; rfl)); (focus (go_simp; constructor <;> with_reducible rfl)); (focus (exact FB.refl _)); (focus (simp only [Act.put, List.setIfInBounds_toArray, List.set_cons_zero, List.set_cons_succ]; rfl)))
            have u2 := K.out.2.2
            have u3 := frozen_row _ HPZq.out.prow 2
            (refine schL_store (o := ?_) (w' := wF.setCell ⟨gp, 2, none⟩ (.int .i64 (nx : Nat))) (at_of hops.out ?_) ?_ 3 (.tmp 103) (.tmp 101) ?_ (.pointer (some ⟨gp, 2, none⟩)) (.int .i64 (nx : Nat)) ?_ ?_ ?_ ?_; rotate_left 1; (focus (simp only [List.getElem?_toArray, List.getElem?_cons_zero, List.getElem?_cons_succ]; rfl)); (focus (rw [hops.out]; rfl)); (focus rfl); (focus rfl); (focus (first | rfl | (simp [Act.eval] <;> done))); (focus (go_simp)))
            have HPZ := Lib.hid (HPZq.out.moved nx (by rw [HZL.out]; exact HNL.out))
            have HPZt := Lib.hid (show TS (gp :: gf :: F) wb (wF.setCell ⟨gp, 2, none⟩ (.int .i64 (nx : Nat))) from (TS.of HPZf.out).then (TS.tb (TB.set (g := gp) wF 2 _) (by simp)))
            clear u2 u3 K HK0 hops HPZq HPZf HPU
            go_wp2_with fail
            go_roundw
            case rel => exact ⟨k + 1, zs, nx, by have := HK.out; omega, by go_num, HZL, HPZ, HQ2, Lib.hid ((HT1.out.then HTB.out).then HPZt.out)⟩
            case measure => (show 2 * xs.length - ((k : Int) + 1).toNat < 2 * xs.length - ((k : Int)).toNat; have := HK.out; omega)
          | false =>
            rw [hu, if_neg (by decide)] at hrj
            have hsv := HSV.out wa HP1.out
            replace hrj : R = (if (plSave x.f n D).1 = 0 then ((some hd, 0), ⟨(ys.map (·.f)).set hd frm0, nx, (plSave x.f n D).2.2⟩) else ((none, (plSave x.f n D).1), plOf ys hd (plSave x.f n D).2.2)) := hrj
            have HPS := Lib.hid (show plSaved ys hd HHY.out n D = ys.set hd ⟨(plSave x.f n D).2.1, x.A, x.c⟩ from by unfold plSaved; rw [hx])
            have HPF := Lib.hid (plSave_off x.f n D)
            have HYS := Lib.hid (show ys.set hd ⟨x.f, x.A, x.c⟩ = ys from by rw [← hx]; exact List.set_getElem_self _)
            generalize plSaved ys hd HHY.out n D = zs at *
            generalize plSave x.f n D = sv at *
            obtain ⟨er, f2, D2⟩ := sv
            have HQ := Lib.hid hrj
            have HC := Lib.hid hsv
            clear hrj hsv hx HRJ HSU HSV HXD HXB HFZ
            go_wp2_with fail
            refine HC.out.mono ?_
            rintro e wb ⟨rfl, F2, hp2, hin, hts⟩
            have HPB := Lib.hid hp2
            have HIN := Lib.hid (show ∀ x ∈ F2, x ∈ F ∨ w.heap.size ≤ x from fun x hx => (hin x hx).imp id (fun h => Nat.le_trans HT1.out.size h))
            have HTB := Lib.hid (show TS (gp :: gf :: F) w wb from HT1.out.then (hts.more (fun x hx => List.mem_cons_of_mem _ hx)))
            clear hp2 hin hts HC HT1 HP1 c0 c1 c2 c3 c4 c5
            try simp only at HQ
            try simp only at HPS
            try simp only at HPF
            by_cases he : er = 0
            · subst he
              have hq2 := HQ.out.trans (if_pos rfl)
              have hst := HPB.out.storeF hd (by rw [HPS.out, List.length_set]; exact HHY.out) frx0
              have hpw := HPB.out.wholeF hd frx0 (frx0_ok wb F2 gp gf)
              have hzz : zs.set hd frx0 = ys.set hd frx0 := by rw [HPS.out, List.set_set]
              rw [hzz] at hst hpw
              have hst2 : (Instr.storeAt 63 (.pointer (some ⟨gf, hd * 6, none⟩)) (.agg #[.bool false, .int .i64 0, .int .i64 0, .bool false, .bool false, .slice none 0 0])).run Try.prog wb = .ok () (wb.setRow gf (frFlat (ys.set hd frx0)).toArray) := hst
              obtain ⟨wc, hwc⟩ : ∃ wc : World, wc = wb.setRow gf (frFlat (ys.set hd frx0)).toArray := ⟨_, rfl⟩
              rw [← hwc] at hst2 hpw
              have HPC := Lib.hid hpw
              have HTC := Lib.hid (show TS (gp :: gf :: F) w wc from by rw [hwc]; exact HTB.out.then (TS.row _ gf wb _ (by simp)))
              have HQ2 := Lib.hid (show R = ((some hd, 0), plOf (ys.set hd frx0) nx D2) from by rw [hq2]; unfold plOf; rw [List.map_set]; rfl)
              have HCL := Lib.hid (show (ys.set hd frx0).length = xs.length from by rw [List.length_set]; exact HYL.out)
              generalize ys.set hd frx0 = vs at *
              clear hst hpw hzz hq2 hwc HTB HPB HQ
              go_upto_region 14 with (refine wpList_store_by rfl _ _ _ rfl _ hst2 ?_)
              clear hst2
              obtain ⟨W0, hW0⟩ : ∃ W0 : World, W0 = wc := ⟨_, rfl⟩
              rw [← hW0]
              refine region_schL (E := FB) 14 ((0, true) :: (1, true) :: (2, true) :: (3, true) :: (4, true) :: (5, true) :: (6, true) :: (7, true) :: (8, true) :: (9, true) :: (10, true) :: (11, false) :: (12, false) :: (13, false) :: []) (by kernel_rfl) FB.refl fb_trans (fun _ _ d _ _ h => by cases d <;> exact h) (by kernel_rfl) ?_
              intro ops hops0
              have hops := Lib.hid hops0
              clear hops0
              have HF : FB W0 W0.drew := (FB.refl _).drew
              generalize W0.drew = wF at *
              have HPZq := Lib.hid (HPC.out.fb (show FB wc wF from by rw [← hW0]; exact HF))
              have HPZf := Lib.hid (show FB wc wF from by rw [← hW0]; exact HF)
              clear hW0 HF
              have K := Lib.hid HPZq.out.pcells
              rw [HCL.out] at K
              have HK0 := K
              repeat (refine sch_take (o := ?_) (v := ?_) (a' := ?_) (at_of hops.out ?_) ?_ (fun W hW => ?_) ?_ ?_; rotate_left 3; (focus (simp only [List.getElem?_toArray, List.getElem?_cons_zero, List.getElem?_cons_succ]; rfl)); (focus (rw [hops.out]; rfl)); (focus (have u0 := FB.cell hW K.out.1; have u1 := FB.cell hW K.out.2.1; have u2 := FB.cell hW K.out.2.2; go_simp; with_reducible rfl)); (focus (simp only [Act.put, List.setIfInBounds_toArray, List.set_cons_zero, List.set_cons_succ]; rfl)))
              repeat (refine sch_run (o := ?_) (v := ?_) (a' := ?_) (w' := ?_) (at_of hops.out ?_) ?_ ?_ ?_ ?_ ?_; rotate_left 4; (focus (simp only [List.getElem?_toArray, List.getElem?_cons_zero, List.getElem?_cons_succ]; rfl)); (focus (rw [hops.out]; rfl)); (focus (go_simp; constructor <;> with_reducible rfl)); (focus (exact FB.refl _)); (focus (simp only [Act.put, List.setIfInBounds_toArray, List.set_cons_zero, List.set_cons_succ]; rfl)))
              have u2 := K.out.2.2
              have u3 := frozen_row _ HPZq.out.prow 2
              (refine schL_store (o := ?_) (w' := wF.setCell ⟨gp, 2, none⟩ (.int .i64 (nx : Nat))) (at_of hops.out ?_) ?_ 3 (.tmp 71) (.tmp 69) ?_ (.pointer (some ⟨gp, 2, none⟩)) (.int .i64 (nx : Nat)) ?_ ?_ ?_ ?_; rotate_left 1; (focus (simp only [List.getElem?_toArray, List.getElem?_cons_zero, List.getElem?_cons_succ]; rfl)); (focus (rw [hops.out]; rfl)); (focus rfl); (focus rfl); (focus (first | rfl | (simp [Act.eval] <;> done))); (focus (go_simp)))
              have HPZ := Lib.hid (HPZq.out.moved nx (by rw [HCL.out]; exact HNL.out))
              have HPZt := Lib.hid (show TS (gp :: gf :: F) wc (wF.setCell ⟨gp, 2, none⟩ (.int .i64 (nx : Nat))) from (TS.of HPZf.out).then (TS.tb (TB.set (g := gp) wF 2 _) (by simp)))
              clear u2 u3 K HK0 hops HPZq HPZf HPC
              go_wp2
              simp only [Exit.noGoto_ret]
              go_wp2
              go_ret2
              rw [HQ2.out]
              exact ⟨rfl, ⟨F2, vs, HPZ.out, rfl, HIN.out, HTC.out.then HPZt.out⟩, fun i hi => by cases hi; exact HHD.out⟩
            · have heb : (er != 0) = true := by simpa using he
              have HQ2 := Lib.hid (HQ.out.trans (if_neg he))
              have HZY := Lib.hid (show zs = ys from by rw [HPS.out, HPF.out he]; exact HYS.out)
              clear he
              go_wp2
              simp only [Exit.noGoto_ret]
              go_wp2
              go_ret2
              rw [HQ2.out]
              exact ⟨rfl, ⟨F2, ys, by have h := HPB.out; rw [HZY.out] at h; exact h, rfl, HIN.out, HTB.out⟩, fun i hi => by cases hi⟩
        · skip
          have hz : ¬ (k : Int) < 2 * (xs.length : Int) := by omega
          have HQ2 := Lib.hid (show R = ((none, 9), plOf ys hd D) from by
            have := HQ.out
            rw [show 2 * xs.length - k = 0 by omega] at this
            exact this)
          clear hlt hk HQ
          go_wp2
          go_ret2
          rw [HQ2.out]
          exact ⟨rfl, ⟨F, ys, HP.out, rfl, fun x hx => .inl hx, HT.out⟩, fun i hi => by cases hi⟩
end
end Go.Proofs.Ytoidlmhebnlnbaa
