/- The walk through SpaceCounts. -/
import Derived.Test.YtjhgnohofcahbaaSpV
set_option linter.unusedVariables false
set_option linter.unusedSimpArgs false
namespace Go.Proofs.Ytjhgnohofcahbaa
open Go.ChangeShapes Go.WideShapes Go.ChangeAt Go.RowKit
set_option maxRecDepth 100000

set_option maxHeartbeats 4000000 in
theorem spaceCounts_walk (P : Int) (A : Option Addr) (c : Nat) (us : List Bool) (L1 : Option Addr) (d : Nat) (zs : List Int) (w : World) (hc : us.length ≤ c) (hm : c ≤ maxLen) (hr : RdV w A (us.map .bool)) (hP : -9223372036854775808 ≤ P ∧ P ≤ 9223372036854775807) (hc1 : zs.length ≤ d) (hm1 : d ≤ maxLen) (hr1 : RdV w L1 (zs.map (Value.int .i64))) (hw1 : ∀ z ∈ zs, -9223372036854775808 ≤ z ∧ z ≤ 9223372036854775807) :
    Calls Try.prog 7 #[.agg #[.int .i64 P, .slice A us.length c], .slice L1 zs.length d] w fun e w' => e = .returned (.bool true) ∧ Below w.heap.size w w' := by
  have HF0 := Lib.hid ((FB.refl w).alloc (.cells #[.int .i64 P, .slice A us.length c] 41))
  have HS0 := Lib.hid (SpB.new (P := P) hr hc hm rfl)
  have HR1 := Lib.hid hr1
  clear hr hc hm hP hr1 hc1 hm1 hw1
  go_enter Try.func7, Try.ntmps7
  go_wp2_with fail
  refine (sp_lives _).mono ?_
  rintro e w1 ⟨rfl, hb⟩
  have HF1 := Lib.hid (HF0.out.trans hb)
  have HS1 := Lib.hid (HS0.out.fb hb)
  clear hb HS0 HF0
  obtain ⟨A1, c1, hrw, hrd, -, -⟩ := HS1.out
  obtain ⟨q0, q1⟩ := row2 hrw
  have hck := sp_Check P us A1 c1 w1 hrd
  clear hrw hrd
  by_cases h1 : 300 < us.length
  · have hz : 300 < (us.length : Int) := by omega
    clear hck
    go_wp2
    go_ret
    exact ⟨rfl, HF1.out⟩
  · by_cases h2 : 60 < zs.length
    · have hz : ¬ 300 < (us.length : Int) := by omega
      have hz2 : 60 < (zs.length : Int) := by omega
      clear hck
      go_wp2
      go_ret
      exact ⟨rfl, HF1.out⟩
    · have hz : ¬ 300 < (us.length : Int) := by omega
      have hz2 : ¬ 60 < (zs.length : Int) := by omega
      replace hck := hck (by omega)
      by_cases hok : spOk P us = true
      · rw [show spChk P us = 0 from by unfold spChk; rw [if_pos hok]] at hck
        have HC := Lib.hid hck
        have HOK := Lib.hid hok
        have HPL := Lib.hid (show P = (us.length : Int) ∧ 8 ≤ us.length from by have := spOk_iff.1 hok; omega)
        clear hck hok
        go_wp2_with fail
        refine HC.out.mono ?_
        rintro e w2 ⟨rfl, hb⟩
        have HF2 := Lib.hid (HF1.out.trans hb)
        have HS2 := Lib.hid (HS1.out.fb hb)
        clear hb HF1 HS1 q0 q1 HC
        obtain ⟨A3, c3, hrw, hrd, hlc, hcm⟩ := HS2.out
        obtain ⟨q0, q1⟩ := row2 hrw
        have hbb := (FB.refl w2).alloc (.cells #[.int .i64 P, .slice A3 us.length c3] 41)
        have HW4 := Lib.hid (show CtW w w2.heap.size L1 zs P us us (.slice none 0 0) [] _ from ⟨HF2.out.trans hbb, (show SpBX (· < w2.heap.size) w2 w.heap.size P us from ⟨A3, c3, hrw, hrd, hlc, hcm, fun ad ha => by
          obtain ⟨kb, ko, e2, hk, -⟩ := RdV.form hrd (by rw [List.length_map]; have := HPL.out.2; omega)
          rw [ha] at e2; cases e2; exact hk⟩).fb hbb, (HF2.out.trans hbb).rdV HR1.out, SpB.new hrd hlc hcm rfl, OwnV.nil _ _ _⟩)
        have HG := Lib.hid (show w.heap.size < w2.heap.size from HS2.out.lt)
        clear hbb hrw hrd hlc hcm HF2 HS2
        go_wp2_with fail
        clear q0 q1
        generalize hw4 : w2.alloc (.cells #[.int .i64 P, .slice A3 us.length c3] 41) = w4 at *
        clear hw4
        obtain ⟨g5, hg5⟩ : ∃ g5, g5 = w2.heap.size := ⟨_, rfl⟩
        rw [← hg5] at HW4 HG ⊢
        clear hg5
        go_loopw [6, 7] (fun c6 c7 wr => ∃ (i : Nat) (ds : List Nat) (v6 : Value), i ≤ zs.length ∧ ds.length ≤ i ∧ c7 = .int .i64 i ∧ v6 = c6 ∧ Hid (TgOk P us ds) ∧ Hid (CtW w g5 L1 zs P us (tgls us ds) v6 ds wr)) (fun c6 c7 wr => zs.length - (intOf c7).toNat)
        case atStart => exact ⟨0, [], _, by omega, by simp, rfl, rfl, TgOk.nil HOK.out, HW4.out⟩
        case round =>
          obtain ⟨i, ds, v6, hi, hdl, rfl, rfl, HTG, HW⟩ := hrel
          by_cases hlt : i < zs.length
          · have hil : (i : Int) < (zs.length : Int) := by omega
            obtain ⟨cur, hcur⟩ : ∃ cur, cur = tgls us ds := ⟨_, rfl⟩
            have HCU := Lib.hid hcur
            rw [← hcur] at HW
            clear hcur
            have HLB := Lib.hid (show ∀ ad, L1 = some ad → ad.block < w.heap.size from fun ad ha => by
              obtain ⟨kb, ko, e2, hk, -⟩ := RdV.form HR1.out (by rw [List.length_map]; omega)
              rw [ha] at e2; cases e2; exact hk)
            obtain ⟨bl, ol, rfl, -, hcs⟩ := RdV.form HW.out.l (by rw [List.length_map]; omega)
            have hcell := hcs i (by rw [List.length_map]; exact hlt)
            rw [List.getElem_map] at hcell
            obtain ⟨z, hz⟩ : ∃ z, z = zs[i] := ⟨_, rfl⟩
            rw [← hz] at hcell
            have HCELL := Lib.hid hcell
            obtain ⟨n, hn, hnl⟩ := pick_at z P us.length HPL.out.1 (by have := HPL.out.2; omega)
            have HPK := Lib.hid (fun W => by
              have := kit_Pick z P W (by have := HPL.out; omega) (by have := HPL.out; omega)
              rw [hn] at this; exact this)
            obtain ⟨As, cs, hrw, -, -, -⟩ := HW.out.s
            have HSR := Lib.hid (row2 hrw).1
            clear hcs hcell hz hn hrw
            go_wp2_with fail
            obtain ⟨W0, hW0⟩ : ∃ W0 : World, W0 = wr := ⟨_, rfl⟩
            rw [← hW0]
            refine region_sch (E := FB) ((0, true) :: (1, true) :: (2, true) :: (3, true) :: (4, true) :: (5, true) :: (6, false) :: (7, true) :: []) (by kernel_rfl) FB.refl fb_trans (fun _ _ d _ _ h => by cases d <;> exact h) (by kernel_rfl) ?_
            intro ops hops0
            have hops := Lib.hid hops0
            clear hops0
            have HF : FB W0 W0.drew := (FB.refl _).drew
            generalize W0.drew = wF at *
            have HFq := Lib.hid (show FB wr wF from by rw [← hW0]; exact HF)
            clear hW0 HF
            have K1 := Lib.hid (FB.cell HFq.out HCELL.out)
            have K2 := Lib.hid (FB.cell HFq.out HSR.out)
            have HF := FB.refl wF
            repeat (refine sch_take (o := ?_) (v := ?_) (a' := ?_) (at_of hops.out ?_) ?_ (fun W hW => ?_) ?_ ?_; rotate_left 3; (focus (simp only [List.getElem?_toArray, List.getElem?_cons_zero, List.getElem?_cons_succ]; rfl)); (focus (rw [hops.out]; rfl)); (focus (have u1 := FB.cell hW K1.out; have u2 := FB.cell hW K2.out; go_simp; with_reducible rfl)); (focus (simp only [Act.put, List.setIfInBounds_toArray, List.set_cons_zero, List.set_cons_succ]; rfl)))
            (refine sch_call (o := ?_) (f := ?_) (args := ?_) (at_of hops.out ?_) ?_ ?_ ?_; rotate_left 3; (focus (simp only [List.getElem?_toArray, List.getElem?_cons_zero, List.getElem?_cons_succ]; rfl)); (focus (rw [hops.out]; rfl)); (focus (go_simp; constructor <;> with_reducible rfl)); (first | ((with_reducible refine (HPK.out _).mono ?_); rintro e w' ⟨rfl, rfl⟩; refine ⟨_, rfl, FB.refl _, ?_⟩; intro a' ha'; simp only [Act.put, List.setIfInBounds_toArray, List.set_cons_zero, List.set_cons_succ] at ha'; subst ha')))
            repeat (refine sch_take (o := ?_) (v := ?_) (a' := ?_) (at_of hops.out ?_) ?_ (fun W hW => ?_) ?_ ?_; rotate_left 3; (focus (simp only [List.getElem?_toArray, List.getElem?_cons_zero, List.getElem?_cons_succ]; rfl)); (focus (rw [hops.out]; rfl)); (focus (go_simp; with_reducible rfl)); (focus (simp only [Act.put, List.setIfInBounds_toArray, List.set_cons_zero, List.set_cons_succ]; rfl)))
            refine sch_done ?_
            have HWq := Lib.hid (HW.out.go HFq.out)
            clear hops HF K1 K2 HCELL HSR HPK HW
            obtain ⟨A5, c5, hrw, hrd, hlc, hcm⟩ := HWq.out.now
            have HCL := Lib.hid (show cur.length = us.length from by rw [HCU.out]; exact HTG.out.len)
            have HCO := Lib.hid (show spOk P cur = true from by rw [HCU.out]; exact HTG.out.ok)
            have HLX := Lib.hid (show cur.length ≤ 1000000000 from by rw [HCL.out]; omega)
            have hncl : n < cur.length := by rw [HCL.out]; exact hnl
            have hnc : (n : Int) < (cur.length : Int) := by omega
            obtain ⟨b5, o5, rfl, hbc⟩ := RdV.bcell hrd hncl
            rw [← getD_at hncl] at hbc
            obtain ⟨ub, hub⟩ : ∃ ub, ub = cur.getD n false := ⟨_, rfl⟩
            rw [← hub] at hbc
            have HUB := Lib.hid hub
            clear hub
            obtain ⟨q0, q1⟩ := row2 hrw
            obtain ⟨z0, hz0⟩ : ∃ z0, z0 = wF.heap.size := ⟨_, rfl⟩
            have HOB := Lib.hid (show ∀ k, v6.ownBlock = some k → k < z0 from fun k hk => by rw [hz0]; exact (OwnV.base HWq.out.done k hk).2)
            have HG5 := Lib.hid (show g5 < z0 from by rw [hz0]; exact HWq.out.now.lt)
            have hU := sp_UseF P cur _ c5 (n : Int) _ hrd HLX.out hlc hcm
            generalize hru : spUse P cur (n : Int) = ru at hU
            obtain ⟨p1, l1, e1⟩ := ru
            have HRU := Lib.hid hru
            have HU := Lib.hid hU
            have HPT := Lib.hid (show P = (us.length : Int) from HPL.out.1)
            clear hrw hrd hlc hcm hU hru
            have HNL := Lib.hid hnl
            go_wp2_with fail
            refine HU.out.mono ?_
            rintro e x1 ⟨A10, c10, rfl, hr10, hc10, hm10, hb, hfr⟩
            have hbb := hb.alloc (.cells #[.int .i64 p1, .slice A10 l1.length c10] 41)
            have HW1 := Lib.hid (HWq.out.go hbb)
            have H10 := Lib.hid (SpBX.new (p := fun k => z0 ≤ k) (P := p1) (us := l1) hr10 hc10 hm10 (fun ad ha => by rw [hz0]; exact (hfr ad ha).1) rfl)
            have HSZ10 := Lib.hid (show z0 ≤ x1.heap.size from by rw [hz0]; exact hb.le)
            clear q0 q1 hbc hb hbb hr10 hc10 hm10 HU hfr hz0
            obtain ⟨A5, c5, hrw, hrd, hlc, hcm⟩ := HW1.out.now
            obtain ⟨q0, q1⟩ := row2 hrw
            have hU := sp_GiveF P cur A5 c5 (n : Int) _ hrd HLX.out hlc hcm
            generalize hrg : spGive P cur (n : Int) = rg at hU
            obtain ⟨p2, l2, e2⟩ := rg
            have HRG := Lib.hid hrg
            have HU := Lib.hid hU
            clear hrw hrd hlc hcm hU hrg
            go_wp2_with fail
            refine HU.out.mono ?_
            rintro e x2 ⟨A12, c12, rfl, hr12, hc12, hm12, hb, hfr⟩
            have hbb := hb.alloc (.cells #[.int .i64 p2, .slice A12 l2.length c12] 41)
            have HWX := Lib.hid (HW1.out.go hbb)
            have H10X := Lib.hid (H10.out.fb hbb)
            have H12 := Lib.hid (SpBX.new (p := fun k => z0 ≤ k) (P := p2) (us := l2) hr12 hc12 hm12 (fun ad ha => Nat.le_trans HSZ10.out (Nat.le_trans (by simp) (hfr ad ha).1)) rfl)
            have HSZ12 := Lib.hid (show x1.heap.size < x2.heap.size from Nat.lt_of_lt_of_le (by simp) hb.le)
            clear q0 q1 hb hbb hr12 hc12 hm12 HU H10 HW1 hfr
            by_cases hn2 : n < 2
            · obtain ⟨k1, k2⟩ := tg_low HCO.out hncl hn2
              rw [HRU.out] at k1
              rw [HRG.out] at k2
              cases k1
              cases k2
              have HTX := HTG
              have HCX := HCU
              have HDX := Lib.hid (show ds.length ≤ i + 1 from by omega)
              have hn3 : (n : Int) < 2 := by omega
              clear HRU HRG H10X H12
              go_wp2_with fail
              generalize x2.alloc _ = wx at *
              obtain ⟨A9, c9, hrw, hrd, hlc, hcm⟩ := HWX.out.now
              have HRW9 := Lib.hid (row2 hrw)
              have HFRE := Lib.hid (fun W (h : FB _ W) => sp_Free P _ A9 c9 W (h.rdV hrd) HLX.out)
              have HCNT := Lib.hid (fun W (h : FB _ W) => sp_Count P _ A9 c9 W (h.rdV hrd) HLX.out)
              clear hrw hrd hlc hcm
              go_wp2_with fail
              obtain ⟨W0, hW0⟩ : ∃ W0 : World, W0 = wx := ⟨_, rfl⟩
              rw [← hW0]
              refine region_sch (E := FB) ((0, true) :: (3, true) :: (1, false) :: (2, true) :: (4, false) :: (5, true) :: []) (by kernel_rfl) FB.refl fb_trans (fun _ _ d _ _ h => by cases d <;> exact h) (by kernel_rfl) ?_
              intro ops hops0
              have hops := Lib.hid hops0
              clear hops0
              have HF : FB W0 W0.drew := (FB.refl _).drew
              generalize W0.drew = wF at *
              have HFx := Lib.hid (show FB wx wF from by rw [← hW0]; exact HF)
              clear hW0 HF
              have K1 := Lib.hid (FB.cell HFx.out HRW9.out.1)
              have K2 := Lib.hid (FB.cell HFx.out HRW9.out.2)
              have HF := FB.refl wF
              repeat (refine sch_take (o := ?_) (v := ?_) (a' := ?_) (at_of hops.out ?_) ?_ (fun W hW => ?_) ?_ ?_; rotate_left 3; (focus (simp only [List.getElem?_toArray, List.getElem?_cons_zero, List.getElem?_cons_succ]; rfl)); (focus (rw [hops.out]; rfl)); (focus (have u1 := FB.cell hW K1.out; have u2 := FB.cell hW K2.out; go_simp; with_reducible rfl)); (focus (simp only [Act.put, List.setIfInBounds_toArray, List.set_cons_zero, List.set_cons_succ]; rfl)))
              (refine sch_call (o := ?_) (f := ?_) (args := ?_) (at_of hops.out ?_) ?_ ?_ ?_; rotate_left 3; (focus (simp only [List.getElem?_toArray, List.getElem?_cons_zero, List.getElem?_cons_succ]; rfl)); (focus (rw [hops.out]; rfl)); (focus (go_simp; constructor <;> with_reducible rfl)); (first | ((with_reducible refine (HFRE.out _ (HFx.out.trans HF)).mono ?_); rintro e w' ⟨A20, c20, rfl, -, hb⟩; refine ⟨_, rfl, hb, ?_⟩; intro a' ha'; simp only [Act.put, List.setIfInBounds_toArray, List.set_cons_zero, List.set_cons_succ] at ha'; subst ha'; replace HF := HF.call hb; clear hb)))
              repeat (refine sch_take (o := ?_) (v := ?_) (a' := ?_) (at_of hops.out ?_) ?_ (fun W hW => ?_) ?_ ?_; rotate_left 3; (focus (simp only [List.getElem?_toArray, List.getElem?_cons_zero, List.getElem?_cons_succ]; rfl)); (focus (rw [hops.out]; rfl)); (focus (go_simp; with_reducible rfl)); (focus (simp only [Act.put, List.setIfInBounds_toArray, List.set_cons_zero, List.set_cons_succ]; rfl)))
              (refine sch_call (o := ?_) (f := ?_) (args := ?_) (at_of hops.out ?_) ?_ ?_ ?_; rotate_left 3; (focus (simp only [List.getElem?_toArray, List.getElem?_cons_zero, List.getElem?_cons_succ]; rfl)); (focus (rw [hops.out]; rfl)); (focus (go_simp; constructor <;> with_reducible rfl)); (first | ((with_reducible refine (HCNT.out _ (HFx.out.trans HF)).mono ?_); rintro e w'' ⟨rfl, hb⟩; refine ⟨_, rfl, hb, ?_⟩; intro a' ha'; simp only [Act.put, List.setIfInBounds_toArray, List.set_cons_zero, List.set_cons_succ] at ha'; subst ha'; replace HF := HF.call hb; clear hb)))
              repeat (refine sch_take (o := ?_) (v := ?_) (a' := ?_) (at_of hops.out ?_) ?_ (fun W hW => ?_) ?_ ?_; rotate_left 3; (focus (simp only [List.getElem?_toArray, List.getElem?_cons_zero, List.getElem?_cons_succ]; rfl)); (focus (rw [hops.out]; rfl)); (focus (go_simp; with_reducible rfl)); (focus (simp only [Act.put, List.setIfInBounds_toArray, List.set_cons_zero, List.set_cons_succ]; rfl)))
              refine sch_done ?_
              have HWE := Lib.hid (HWX.out.go (HFx.out.trans HF))
              clear hops HF K1 K2 HFRE HCNT HRW9 HFx
              go_wp2
              go_roundw
              case rel => exact ⟨i + 1, _, _, by omega, HDX.out, by go_num, rfl, HTX.out, by rw [← HCX.out]; exact HWE.out⟩
              case measure => simp [intOf]; omega
            · cases ub
              · obtain ⟨k1, k2, k3, k4⟩ := tg_free HCO.out hncl (by omega) HUB.out.symm
                rw [HRU.out] at k1
                rw [HRG.out] at k2
                have ea : P = p1 := (congrArg (fun q => q.1) k1).symm
                have eb : tgl cur n = l1 := (congrArg (fun q => q.2.1) k1).symm
                have ec : (0 : Int) = e1 := (congrArg (fun q => q.2.2) k1).symm
                subst ea
                subst eb
                subst ec
                cases k2
                have HTX := Lib.hid (HTG.out.snoc (n := n) (by omega) HNL.out)
                have HCX := Lib.hid (show tgl cur n = tgls us (ds ++ [n]) from by rw [tgls_snoc, ← HCU.out])
                have HNXL := Lib.hid (show (tgl cur n).length = us.length from by rw [tgl_len, HCL.out])
                have HDX := Lib.hid (show (ds ++ [n]).length ≤ i + 1 from by simp; omega)
                have hcn3 : (spFree P cur).length ≤ 300 := by rw [cnt_eq HCO.out]; have := frees_le cur cur.length; have := HCL.out; omega
                generalize tgl cur n = nx at *
                generalize hcn : (spFree P cur).length = cn at *
                have HCN := Lib.hid hcn
                have HNX := Lib.hid (show nx.length ≤ 1000000000 from by have := HNXL.out; omega)
                have hnn : n < nx.length := by have := HNL.out; have := HNXL.out; omega
                have hnni : (n : Int) < (nx.length : Int) := by omega
                have HGZ := Lib.hid (show z0 ≤ x1.heap.size from by exact HSZ10.out)
                have HGX := H10X
                obtain ⟨A14, c14, hrw, hrd, hlc, hcm, -⟩ := H10X.out
                obtain ⟨b14, o14, rfl, hb14⟩ := RdV.bcell hrd hnn
                rw [← getD_at hnn, k4] at hb14
                obtain ⟨A15, c15, hrw5, hrd5, -, -⟩ := HWX.out.now
                have HB14 := Lib.hid hb14
                have HR14 := Lib.hid (row2 hrw)
                have HRD14 := Lib.hid hrd
                have HLC14 := Lib.hid (And.intro hlc hcm)
                have HR15 := Lib.hid (row2 hrw5)
                have HROW15 := Lib.hid hrw5
                have HRD15 := Lib.hid hrd5
                have HC1 := Lib.hid (fun W (h : RdV W (some ⟨b14, o14, none⟩) (nx.map .bool)) => by
                  have q := sp_Count P nx (some ⟨b14, o14, none⟩) c14 W h HNX.out
                  rw [show ((spFree P nx).length : Int) = (cn : Int) - 1 from by omega] at q; exact q)
                have HC2 := Lib.hid (fun W (h : RdV W A15 (cur.map .bool)) => by
                  have q := sp_Count P cur A15 c15 W h HLX.out
                  rw [HCN.out] at q; exact q)
                have hcn4 : (cn : Int) ≤ 300 := by omega
                have hcn0 : (0 : Int) ≤ (cn : Int) := by omega
                have hw1 : IntKind.i64.wrap ((cn : Int) - 1) = (cn : Int) - 1 := by rw [IntKind.wrap_i64]; omega
                have hw2 : IntKind.i64.wrap ((cn : Int) + 1) = (cn : Int) + 1 := by rw [IntKind.wrap_i64]; omega
                have hw3 : (((cn : Int) - 1) == ((cn : Int) - 1)) = true := by simp
                have hn3 : ¬ (n : Int) < 2 := by omega
                (try clear k1); (try clear k2)
                clear k3 k4 hb14 hrw hrd hlc hcm hrw5 hrd5 HRU HRG hcn hcn3
                go_wp2_with fail
                generalize x2.alloc _ = wx at *
                obtain ⟨W0, hW0⟩ : ∃ W0 : World, W0 = wx := ⟨_, rfl⟩
                rw [← hW0]
                refine region_sch (E := FB) ((0, true) :: (1, true) :: (2, true) :: (3, true) :: (4, true) :: (5, true) :: (6, true) :: (7, true) :: (9, true) :: (8, false) :: (10, false) :: (11, true) :: (12, true) :: (13, true) :: (14, true) :: (15, true) :: (16, true) :: (17, true) :: (18, true) :: (19, true) :: (20, true) :: (21, true) :: []) (by kernel_rfl) FB.refl fb_trans (fun _ _ d _ _ h => by cases d <;> exact h) (by kernel_rfl) ?_
                intro ops hops0
                have hops := Lib.hid hops0
                clear hops0
                have HF : FB W0 W0.drew := (FB.refl _).drew
                generalize W0.drew = wF at *
                have HFx := Lib.hid (show FB wx wF from by rw [← hW0]; exact HF)
                clear hW0 HF
                have K1 := Lib.hid (FB.cell HFx.out HR14.out.1)
                have K2 := Lib.hid (FB.cell HFx.out HR14.out.2)
                have K3 := Lib.hid (FB.cell HFx.out HR15.out.1)
                have K4 := Lib.hid (FB.cell HFx.out HR15.out.2)
                have K5 := Lib.hid (FB.cell HFx.out HB14.out)
                have HF := FB.refl wF
                repeat (refine sch_take (o := ?_) (v := ?_) (a' := ?_) (at_of hops.out ?_) ?_ (fun W hW => ?_) ?_ ?_; rotate_left 3; (focus (simp only [List.getElem?_toArray, List.getElem?_cons_zero, List.getElem?_cons_succ]; rfl)); (focus (rw [hops.out]; rfl)); (focus (have u1 := FB.cell hW K1.out; have u2 := FB.cell hW K2.out; have u3 := FB.cell hW K3.out; have u4 := FB.cell hW K4.out; have u5 := FB.cell hW K5.out; go_simp; with_reducible rfl)); (focus (simp only [Act.put, List.setIfInBounds_toArray, List.set_cons_zero, List.set_cons_succ]; rfl)))
                (refine sch_call (o := ?_) (f := ?_) (args := ?_) (at_of hops.out ?_) ?_ ?_ ?_; rotate_left 3; (focus (simp only [List.getElem?_toArray, List.getElem?_cons_zero, List.getElem?_cons_succ]; rfl)); (focus (rw [hops.out]; rfl)); (focus (go_simp; constructor <;> with_reducible rfl)); (first | ((with_reducible refine (HC1.out _ ((HFx.out.trans HF).rdV HRD14.out)).mono ?_); rintro e w' ⟨rfl, hb⟩; refine ⟨_, rfl, hb, ?_⟩; intro a' ha'; simp only [Act.put, List.setIfInBounds_toArray, List.set_cons_zero, List.set_cons_succ] at ha'; subst ha'; replace HF := HF.call hb; clear hb)))
                repeat (refine sch_take (o := ?_) (v := ?_) (a' := ?_) (at_of hops.out ?_) ?_ (fun W hW => ?_) ?_ ?_; rotate_left 3; (focus (simp only [List.getElem?_toArray, List.getElem?_cons_zero, List.getElem?_cons_succ]; rfl)); (focus (rw [hops.out]; rfl)); (focus (have u1 := FB.cell (HF.trans hW) K1.out; go_simp; with_reducible rfl)); (focus (simp only [Act.put, List.setIfInBounds_toArray, List.set_cons_zero, List.set_cons_succ]; rfl)))
                (refine sch_call (o := ?_) (f := ?_) (args := ?_) (at_of hops.out ?_) ?_ ?_ ?_; rotate_left 3; (focus (simp only [List.getElem?_toArray, List.getElem?_cons_zero, List.getElem?_cons_succ]; rfl)); (focus (rw [hops.out]; rfl)); (focus (go_simp; constructor <;> with_reducible rfl)); (first | ((with_reducible refine (HC2.out _ ((HFx.out.trans HF).rdV HRD15.out)).mono ?_); rintro e w'' ⟨rfl, hb⟩; refine ⟨_, rfl, hb, ?_⟩; intro a' ha'; simp only [Act.put, List.setIfInBounds_toArray, List.set_cons_zero, List.set_cons_succ] at ha'; subst ha'; replace HF := HF.call hb; clear hb)))
                repeat (refine sch_take (o := ?_) (v := ?_) (a' := ?_) (at_of hops.out ?_) ?_ (fun W hW => ?_) ?_ ?_; rotate_left 3; (focus (simp only [List.getElem?_toArray, List.getElem?_cons_zero, List.getElem?_cons_succ]; rfl)); (focus (rw [hops.out]; rfl)); (focus (have u2 := FB.cell (HF.trans hW) K2.out; have u5 := FB.cell (HF.trans hW) K5.out; go_simp; with_reducible rfl)); (focus (simp only [Act.put, List.setIfInBounds_toArray, List.set_cons_zero, List.set_cons_succ]; rfl)))
                refine sch_done ?_
                have HFy := Lib.hid (HFx.out.trans HF)
                clear hops HF K1 K2 K3 K4 K5 HC1 HC2 HB14 HR15 HFx
                have HWZ := Lib.hid (HWX.out.go HFy.out)
                obtain ⟨A16, c16, hrw, hrd, hlc, hcm, hfr⟩ := HGX.out.fb HFy.out
                have HROW := Lib.hid (row2 hrw)
                have HRD := Lib.hid hrd
                have HLC := Lib.hid (And.intro hlc hcm)
                have HFR := Lib.hid hfr
                have HBK := Lib.hid (show ∀ k, v6.ownBlock = some k → k < z0 from fun k hk => HOB.out k hk)
                have HGL := Lib.hid (show x1.heap.size < _ from (Array.getElem?_eq_some_iff.1 hrw).1)
                clear hrw hrd hlc hcm hfr
                go_wp2_with fail
                obtain ⟨W0, hW0⟩ : ∃ W0 : World, W0 = w'' := ⟨_, rfl⟩
                rw [← hW0]
                refine region_sch (E := TS (g5 :: v6.ownBlock.toList)) ((0, true) :: (1, true) :: (2, true) :: (3, false) :: (4, false) :: (5, false) :: (6, true) :: []) (by kernel_rfl) (TS.refl _) (fun _ _ _ h k => TS.then h k) (fun _ _ d _ _ h => by cases d <;> exact h) (by kernel_rfl) ?_
                intro ops hops0
                have hops := Lib.hid hops0
                clear hops0
                have HF : TS (g5 :: v6.ownBlock.toList) W0 W0.drew := TS.of (FB.refl _).drew
                have HD : FB W0 W0.drew := (FB.refl _).drew
                generalize W0.drew = wF0 at *
                have HDq := Lib.hid (show FB w'' wF0 from by rw [← hW0]; exact HD)
                clear hW0 HD HF
                have K1 := Lib.hid (FB.cell HDq.out HROW.out.1)
                have K2 := Lib.hid (FB.cell HDq.out HROW.out.2)
                have HNF := Lib.hid (show x1.heap.size ∉ g5 :: v6.ownBlock.toList from by
                  intro hm
                  rcases List.mem_cons.1 hm with e | e
                  · have := HG5.out; have := HGZ.out; omega
                  · rw [Option.mem_toList] at e
                    have := HBK.out _ e; have := HGZ.out; omega)
                repeat (refine sch_take (o := ?_) (v := ?_) (a' := ?_) (at_of hops.out ?_) ?_ (fun W hW => ?_) ?_ ?_; rotate_left 3; (focus (simp only [List.getElem?_toArray, List.getElem?_cons_zero, List.getElem?_cons_succ]; rfl)); (focus (rw [hops.out]; rfl)); (focus (have u1 := TS.cell hW K1.out HNF.out; have u2 := TS.cell hW K2.out HNF.out; go_simp; with_reducible rfl)); (focus (simp only [Act.put, List.setIfInBounds_toArray, List.set_cons_zero, List.set_cons_succ]; rfl)))
                (refine sch_run (o := ?_) (v := ?_) (a' := ?_) (w' := ?_) (at_of hops.out ?_) ?_ ?_ ?_ ?_ ?_; rotate_left 4; (focus (simp only [List.getElem?_toArray, List.getElem?_cons_zero, List.getElem?_cons_succ]; rfl)); (focus (rw [hops.out]; rfl)); (focus (go_simp; constructor <;> with_reducible rfl)); (focus (exact TS.of ((FB.refl _).alloc _))); (focus (simp only [Act.put, List.setIfInBounds_toArray, List.set_cons_zero, List.set_cons_succ]; rfl)))
                have HWY := Lib.hid ((HWZ.out.go HDq.out).go ((FB.refl wF0).alloc (.cells #[.int .i64 (n : Int)] 3)))
                (refine sch_append (o := ?_) (at_of hops.out ?_) ?_ (.tmp 87) (.tmp 89) 51 3 8 (.int .i64 0) Try.underlying51 info_i rfl ?_ (g5 + 1) v6 (ivs ds) HWY.out.done ?_ (some ⟨wF0.heap.size, 0, none⟩) 1 1 [.int .i64 (n : Int)] rfl ?_ (RdV.lit wF0 [.int .i64 (n : Int)] 3 rfl) (by simp [Value.oneCell']) (by rw [ivs_len]; simp [maxLen]; omega) (by rw [ivs_len]; simp; omega) (by have := HWY.out.now.lt; omega) ?_; rotate_left 1; (focus (simp only [List.getElem?_toArray, List.getElem?_cons_zero, List.getElem?_cons_succ]; rfl)); (focus (rw [hops.out]; rfl)); (focus rfl); (focus rfl); (focus rfl))
                intro v' w4 ho hgr hob
                refine ⟨ts_grownC hgr, ?_⟩
                intro a' ha'; simp only [Act.put, List.setIfInBounds_toArray, List.set_cons_zero, List.set_cons_succ] at ha'; subst ha'
                have HTU := Lib.hid (CtW.turn HWY.out HG.out HLB.out ho hgr ((HDq.out.alloc _).rdV HRD.out) HLC.out.1 HLC.out.2 (fun ad ha e => by have := HBK.out _ e; have := HFR.out ad ha; omega))
                clear ho hgr hob
                (refine sch_storeR (o := ?_) (at_of hops.out ?_) ?_ 41 (.tmp 5) (.tmp 86) ?_ ?_ (.pointer (some ⟨g5, 0, none⟩)) (.agg #[.int .i64 P, .slice A16 nx.length c16]) ?_ ?_ HTU.out.1 (TS.tb (TB.setRow g5 w4 _) (by simp)) ?_; rotate_left 1; (focus (simp only [List.getElem?_toArray, List.getElem?_cons_zero, List.getElem?_cons_succ]; rfl)); (focus (rw [hops.out]; rfl)); (focus rfl); (focus rfl); (focus rfl); (focus rfl))
                repeat (refine sch_take (o := ?_) (v := ?_) (a' := ?_) (at_of hops.out ?_) ?_ (fun W hW => ?_) ?_ ?_; rotate_left 3; (focus (simp only [List.getElem?_toArray, List.getElem?_cons_zero, List.getElem?_cons_succ]; rfl)); (focus (rw [hops.out]; rfl)); (focus (go_simp; with_reducible rfl)); (focus (simp only [Act.put, List.setIfInBounds_toArray, List.set_cons_zero, List.set_cons_succ]; rfl)))
                refine sch_done ?_
                have HWX := Lib.hid HTU.out.2.2
                have HLX := HNX
                clear hops HTU HWY HDq K1 K2 HNF HRD HLC HFR HBK HGL HROW HWZ HFy HGX H10X H12
                generalize w4.setRow _ _ = wx at *
                obtain ⟨A9, c9, hrw, hrd, hlc, hcm⟩ := HWX.out.now
                have HRW9 := Lib.hid (row2 hrw)
                have HFRE := Lib.hid (fun W (h : FB _ W) => sp_Free P _ A9 c9 W (h.rdV hrd) HLX.out)
                have HCNT := Lib.hid (fun W (h : FB _ W) => sp_Count P _ A9 c9 W (h.rdV hrd) HLX.out)
                clear hrw hrd hlc hcm
                go_wp2_with fail
                obtain ⟨W0, hW0⟩ : ∃ W0 : World, W0 = wx := ⟨_, rfl⟩
                rw [← hW0]
                refine region_sch (E := FB) ((0, true) :: (3, true) :: (1, false) :: (2, true) :: (4, false) :: (5, true) :: []) (by kernel_rfl) FB.refl fb_trans (fun _ _ d _ _ h => by cases d <;> exact h) (by kernel_rfl) ?_
                intro ops hops0
                have hops := Lib.hid hops0
                clear hops0
                have HF : FB W0 W0.drew := (FB.refl _).drew
                generalize W0.drew = wF at *
                have HFx := Lib.hid (show FB wx wF from by rw [← hW0]; exact HF)
                clear hW0 HF
                have K1 := Lib.hid (FB.cell HFx.out HRW9.out.1)
                have K2 := Lib.hid (FB.cell HFx.out HRW9.out.2)
                have HF := FB.refl wF
                repeat (refine sch_take (o := ?_) (v := ?_) (a' := ?_) (at_of hops.out ?_) ?_ (fun W hW => ?_) ?_ ?_; rotate_left 3; (focus (simp only [List.getElem?_toArray, List.getElem?_cons_zero, List.getElem?_cons_succ]; rfl)); (focus (rw [hops.out]; rfl)); (focus (have u1 := FB.cell hW K1.out; have u2 := FB.cell hW K2.out; go_simp; with_reducible rfl)); (focus (simp only [Act.put, List.setIfInBounds_toArray, List.set_cons_zero, List.set_cons_succ]; rfl)))
                (refine sch_call (o := ?_) (f := ?_) (args := ?_) (at_of hops.out ?_) ?_ ?_ ?_; rotate_left 3; (focus (simp only [List.getElem?_toArray, List.getElem?_cons_zero, List.getElem?_cons_succ]; rfl)); (focus (rw [hops.out]; rfl)); (focus (go_simp; constructor <;> with_reducible rfl)); (first | ((with_reducible refine (HFRE.out _ (HFx.out.trans HF)).mono ?_); rintro e w' ⟨A20, c20, rfl, -, hb⟩; refine ⟨_, rfl, hb, ?_⟩; intro a' ha'; simp only [Act.put, List.setIfInBounds_toArray, List.set_cons_zero, List.set_cons_succ] at ha'; subst ha'; replace HF := HF.call hb; clear hb)))
                repeat (refine sch_take (o := ?_) (v := ?_) (a' := ?_) (at_of hops.out ?_) ?_ (fun W hW => ?_) ?_ ?_; rotate_left 3; (focus (simp only [List.getElem?_toArray, List.getElem?_cons_zero, List.getElem?_cons_succ]; rfl)); (focus (rw [hops.out]; rfl)); (focus (go_simp; with_reducible rfl)); (focus (simp only [Act.put, List.setIfInBounds_toArray, List.set_cons_zero, List.set_cons_succ]; rfl)))
                (refine sch_call (o := ?_) (f := ?_) (args := ?_) (at_of hops.out ?_) ?_ ?_ ?_; rotate_left 3; (focus (simp only [List.getElem?_toArray, List.getElem?_cons_zero, List.getElem?_cons_succ]; rfl)); (focus (rw [hops.out]; rfl)); (focus (go_simp; constructor <;> with_reducible rfl)); (first | ((with_reducible refine (HCNT.out _ (HFx.out.trans HF)).mono ?_); rintro e w'' ⟨rfl, hb⟩; refine ⟨_, rfl, hb, ?_⟩; intro a' ha'; simp only [Act.put, List.setIfInBounds_toArray, List.set_cons_zero, List.set_cons_succ] at ha'; subst ha'; replace HF := HF.call hb; clear hb)))
                repeat (refine sch_take (o := ?_) (v := ?_) (a' := ?_) (at_of hops.out ?_) ?_ (fun W hW => ?_) ?_ ?_; rotate_left 3; (focus (simp only [List.getElem?_toArray, List.getElem?_cons_zero, List.getElem?_cons_succ]; rfl)); (focus (rw [hops.out]; rfl)); (focus (go_simp; with_reducible rfl)); (focus (simp only [Act.put, List.setIfInBounds_toArray, List.set_cons_zero, List.set_cons_succ]; rfl)))
                refine sch_done ?_
                have HWE := Lib.hid (HWX.out.go (HFx.out.trans HF))
                clear hops HF K1 K2 HFRE HCNT HRW9 HFx
                go_wp2
                go_roundw
                case rel => exact ⟨i + 1, _, _, by omega, HDX.out, by go_num, rfl, HTX.out, by rw [← HCX.out]; exact HWE.out⟩
                case measure => simp [intOf]; omega
              · obtain ⟨k1, k2, k3, k4⟩ := tg_used HCO.out hncl (by omega) HUB.out.symm
                rw [HRU.out] at k1
                rw [HRG.out] at k2
                have ea : P = p2 := (congrArg (fun q => q.1) k2).symm
                have eb : tgl cur n = l2 := (congrArg (fun q => q.2.1) k2).symm
                have ec : (0 : Int) = e2 := (congrArg (fun q => q.2.2) k2).symm
                subst ea
                subst eb
                subst ec
                cases k1
                have HTX := Lib.hid (HTG.out.snoc (n := n) (by omega) HNL.out)
                have HCX := Lib.hid (show tgl cur n = tgls us (ds ++ [n]) from by rw [tgls_snoc, ← HCU.out])
                have HNXL := Lib.hid (show (tgl cur n).length = us.length from by rw [tgl_len, HCL.out])
                have HDX := Lib.hid (show (ds ++ [n]).length ≤ i + 1 from by simp; omega)
                have hcn3 : (spFree P cur).length ≤ 300 := by rw [cnt_eq HCO.out]; have := frees_le cur cur.length; have := HCL.out; omega
                generalize tgl cur n = nx at *
                generalize hcn : (spFree P cur).length = cn at *
                have HCN := Lib.hid hcn
                have HNX := Lib.hid (show nx.length ≤ 1000000000 from by have := HNXL.out; omega)
                have hnn : n < nx.length := by have := HNL.out; have := HNXL.out; omega
                have hnni : (n : Int) < (nx.length : Int) := by omega
                have HGZ := Lib.hid (show z0 ≤ x2.heap.size from by have := HSZ10.out; have := HSZ12.out; omega)
                have HGX := H12
                obtain ⟨A14, c14, hrw, hrd, hlc, hcm, -⟩ := H12.out
                obtain ⟨b14, o14, rfl, hb14⟩ := RdV.bcell hrd hnn
                rw [← getD_at hnn, k4] at hb14
                obtain ⟨A15, c15, hrw5, hrd5, -, -⟩ := HWX.out.now
                have HB14 := Lib.hid hb14
                have HR14 := Lib.hid (row2 hrw)
                have HRD14 := Lib.hid hrd
                have HLC14 := Lib.hid (And.intro hlc hcm)
                have HR15 := Lib.hid (row2 hrw5)
                have HROW15 := Lib.hid hrw5
                have HRD15 := Lib.hid hrd5
                have HC1 := Lib.hid (fun W (h : RdV W (some ⟨b14, o14, none⟩) (nx.map .bool)) => by
                  have q := sp_Count P nx (some ⟨b14, o14, none⟩) c14 W h HNX.out
                  rw [show ((spFree P nx).length : Int) = (cn : Int) + 1 from by omega] at q; exact q)
                have HC2 := Lib.hid (fun W (h : RdV W A15 (cur.map .bool)) => by
                  have q := sp_Count P cur A15 c15 W h HLX.out
                  rw [HCN.out] at q; exact q)
                have hcn4 : (cn : Int) ≤ 300 := by omega
                have hcn0 : (0 : Int) ≤ (cn : Int) := by omega
                have hw1 : IntKind.i64.wrap ((cn : Int) - 1) = (cn : Int) - 1 := by rw [IntKind.wrap_i64]; omega
                have hw2 : IntKind.i64.wrap ((cn : Int) + 1) = (cn : Int) + 1 := by rw [IntKind.wrap_i64]; omega
                have hw3 : (((cn : Int) - 1) == ((cn : Int) - 1)) = true := by simp
                have hn3 : ¬ (n : Int) < 2 := by omega
                (try clear k1); (try clear k2)
                clear k3 k4 hb14 hrw hrd hlc hcm hrw5 hrd5 HRU HRG hcn hcn3
                go_wp2_with fail
                generalize x2.alloc _ = wx at *
                obtain ⟨W0, hW0⟩ : ∃ W0 : World, W0 = wx := ⟨_, rfl⟩
                rw [← hW0]
                refine region_sch (E := FB) ((0, true) :: (1, true) :: (2, true) :: (3, true) :: (4, true) :: (5, true) :: (6, true) :: (7, true) :: (9, true) :: (8, false) :: (10, false) :: (11, true) :: (12, true) :: (13, true) :: (14, true) :: (15, true) :: (16, true) :: (17, true) :: (18, true) :: (19, true) :: (20, true) :: []) (by kernel_rfl) FB.refl fb_trans (fun _ _ d _ _ h => by cases d <;> exact h) (by kernel_rfl) ?_
                intro ops hops0
                have hops := Lib.hid hops0
                clear hops0
                have HF : FB W0 W0.drew := (FB.refl _).drew
                generalize W0.drew = wF at *
                have HFx := Lib.hid (show FB wx wF from by rw [← hW0]; exact HF)
                clear hW0 HF
                have K1 := Lib.hid (FB.cell HFx.out HR14.out.1)
                have K2 := Lib.hid (FB.cell HFx.out HR14.out.2)
                have K3 := Lib.hid (FB.cell HFx.out HR15.out.1)
                have K4 := Lib.hid (FB.cell HFx.out HR15.out.2)
                have K5 := Lib.hid (FB.cell HFx.out HB14.out)
                have HF := FB.refl wF
                repeat (refine sch_take (o := ?_) (v := ?_) (a' := ?_) (at_of hops.out ?_) ?_ (fun W hW => ?_) ?_ ?_; rotate_left 3; (focus (simp only [List.getElem?_toArray, List.getElem?_cons_zero, List.getElem?_cons_succ]; rfl)); (focus (rw [hops.out]; rfl)); (focus (have u1 := FB.cell hW K1.out; have u2 := FB.cell hW K2.out; have u3 := FB.cell hW K3.out; have u4 := FB.cell hW K4.out; have u5 := FB.cell hW K5.out; go_simp; with_reducible rfl)); (focus (simp only [Act.put, List.setIfInBounds_toArray, List.set_cons_zero, List.set_cons_succ]; rfl)))
                (refine sch_call (o := ?_) (f := ?_) (args := ?_) (at_of hops.out ?_) ?_ ?_ ?_; rotate_left 3; (focus (simp only [List.getElem?_toArray, List.getElem?_cons_zero, List.getElem?_cons_succ]; rfl)); (focus (rw [hops.out]; rfl)); (focus (go_simp; constructor <;> with_reducible rfl)); (first | ((with_reducible refine (HC1.out _ ((HFx.out.trans HF).rdV HRD14.out)).mono ?_); rintro e w' ⟨rfl, hb⟩; refine ⟨_, rfl, hb, ?_⟩; intro a' ha'; simp only [Act.put, List.setIfInBounds_toArray, List.set_cons_zero, List.set_cons_succ] at ha'; subst ha'; replace HF := HF.call hb; clear hb)))
                repeat (refine sch_take (o := ?_) (v := ?_) (a' := ?_) (at_of hops.out ?_) ?_ (fun W hW => ?_) ?_ ?_; rotate_left 3; (focus (simp only [List.getElem?_toArray, List.getElem?_cons_zero, List.getElem?_cons_succ]; rfl)); (focus (rw [hops.out]; rfl)); (focus (have u1 := FB.cell (HF.trans hW) K1.out; go_simp; with_reducible rfl)); (focus (simp only [Act.put, List.setIfInBounds_toArray, List.set_cons_zero, List.set_cons_succ]; rfl)))
                (refine sch_call (o := ?_) (f := ?_) (args := ?_) (at_of hops.out ?_) ?_ ?_ ?_; rotate_left 3; (focus (simp only [List.getElem?_toArray, List.getElem?_cons_zero, List.getElem?_cons_succ]; rfl)); (focus (rw [hops.out]; rfl)); (focus (go_simp; constructor <;> with_reducible rfl)); (first | ((with_reducible refine (HC2.out _ ((HFx.out.trans HF).rdV HRD15.out)).mono ?_); rintro e w'' ⟨rfl, hb⟩; refine ⟨_, rfl, hb, ?_⟩; intro a' ha'; simp only [Act.put, List.setIfInBounds_toArray, List.set_cons_zero, List.set_cons_succ] at ha'; subst ha'; replace HF := HF.call hb; clear hb)))
                repeat (refine sch_take (o := ?_) (v := ?_) (a' := ?_) (at_of hops.out ?_) ?_ (fun W hW => ?_) ?_ ?_; rotate_left 3; (focus (simp only [List.getElem?_toArray, List.getElem?_cons_zero, List.getElem?_cons_succ]; rfl)); (focus (rw [hops.out]; rfl)); (focus (have u2 := FB.cell (HF.trans hW) K2.out; have u5 := FB.cell (HF.trans hW) K5.out; go_simp; with_reducible rfl)); (focus (simp only [Act.put, List.setIfInBounds_toArray, List.set_cons_zero, List.set_cons_succ]; rfl)))
                refine sch_done ?_
                have HFy := Lib.hid (HFx.out.trans HF)
                clear hops HF K1 K2 K3 K4 K5 HC1 HC2 HB14 HR15 HFx
                have HWZ := Lib.hid (HWX.out.go HFy.out)
                obtain ⟨A16, c16, hrw, hrd, hlc, hcm, hfr⟩ := HGX.out.fb HFy.out
                have HROW := Lib.hid (row2 hrw)
                have HRD := Lib.hid hrd
                have HLC := Lib.hid (And.intro hlc hcm)
                have HFR := Lib.hid hfr
                have HBK := Lib.hid (show ∀ k, v6.ownBlock = some k → k < z0 from fun k hk => HOB.out k hk)
                have HGL := Lib.hid (show x2.heap.size < _ from (Array.getElem?_eq_some_iff.1 hrw).1)
                clear hrw hrd hlc hcm hfr
                go_wp2_with fail
                obtain ⟨W0, hW0⟩ : ∃ W0 : World, W0 = w'' := ⟨_, rfl⟩
                rw [← hW0]
                refine region_sch (E := TS (g5 :: v6.ownBlock.toList)) ((0, true) :: (1, true) :: (2, true) :: (3, false) :: (4, false) :: (5, false) :: (6, true) :: []) (by kernel_rfl) (TS.refl _) (fun _ _ _ h k => TS.then h k) (fun _ _ d _ _ h => by cases d <;> exact h) (by kernel_rfl) ?_
                intro ops hops0
                have hops := Lib.hid hops0
                clear hops0
                have HF : TS (g5 :: v6.ownBlock.toList) W0 W0.drew := TS.of (FB.refl _).drew
                have HD : FB W0 W0.drew := (FB.refl _).drew
                generalize W0.drew = wF0 at *
                have HDq := Lib.hid (show FB w'' wF0 from by rw [← hW0]; exact HD)
                clear hW0 HD HF
                have K1 := Lib.hid (FB.cell HDq.out HROW.out.1)
                have K2 := Lib.hid (FB.cell HDq.out HROW.out.2)
                have HNF := Lib.hid (show x2.heap.size ∉ g5 :: v6.ownBlock.toList from by
                  intro hm
                  rcases List.mem_cons.1 hm with e | e
                  · have := HG5.out; have := HGZ.out; omega
                  · rw [Option.mem_toList] at e
                    have := HBK.out _ e; have := HGZ.out; omega)
                repeat (refine sch_take (o := ?_) (v := ?_) (a' := ?_) (at_of hops.out ?_) ?_ (fun W hW => ?_) ?_ ?_; rotate_left 3; (focus (simp only [List.getElem?_toArray, List.getElem?_cons_zero, List.getElem?_cons_succ]; rfl)); (focus (rw [hops.out]; rfl)); (focus (have u1 := TS.cell hW K1.out HNF.out; have u2 := TS.cell hW K2.out HNF.out; go_simp; with_reducible rfl)); (focus (simp only [Act.put, List.setIfInBounds_toArray, List.set_cons_zero, List.set_cons_succ]; rfl)))
                (refine sch_run (o := ?_) (v := ?_) (a' := ?_) (w' := ?_) (at_of hops.out ?_) ?_ ?_ ?_ ?_ ?_; rotate_left 4; (focus (simp only [List.getElem?_toArray, List.getElem?_cons_zero, List.getElem?_cons_succ]; rfl)); (focus (rw [hops.out]; rfl)); (focus (go_simp; constructor <;> with_reducible rfl)); (focus (exact TS.of ((FB.refl _).alloc _))); (focus (simp only [Act.put, List.setIfInBounds_toArray, List.set_cons_zero, List.set_cons_succ]; rfl)))
                have HWY := Lib.hid ((HWZ.out.go HDq.out).go ((FB.refl wF0).alloc (.cells #[.int .i64 (n : Int)] 3)))
                (refine sch_append (o := ?_) (at_of hops.out ?_) ?_ (.tmp 124) (.tmp 126) 51 3 8 (.int .i64 0) Try.underlying51 info_i rfl ?_ (g5 + 1) v6 (ivs ds) HWY.out.done ?_ (some ⟨wF0.heap.size, 0, none⟩) 1 1 [.int .i64 (n : Int)] rfl ?_ (RdV.lit wF0 [.int .i64 (n : Int)] 3 rfl) (by simp [Value.oneCell']) (by rw [ivs_len]; simp [maxLen]; omega) (by rw [ivs_len]; simp; omega) (by have := HWY.out.now.lt; omega) ?_; rotate_left 1; (focus (simp only [List.getElem?_toArray, List.getElem?_cons_zero, List.getElem?_cons_succ]; rfl)); (focus (rw [hops.out]; rfl)); (focus rfl); (focus rfl); (focus rfl))
                intro v' w4 ho hgr hob
                refine ⟨ts_grownC hgr, ?_⟩
                intro a' ha'; simp only [Act.put, List.setIfInBounds_toArray, List.set_cons_zero, List.set_cons_succ] at ha'; subst ha'
                have HTU := Lib.hid (CtW.turn HWY.out HG.out HLB.out ho hgr ((HDq.out.alloc _).rdV HRD.out) HLC.out.1 HLC.out.2 (fun ad ha e => by have := HBK.out _ e; have := HFR.out ad ha; omega))
                clear ho hgr hob
                (refine sch_storeR (o := ?_) (at_of hops.out ?_) ?_ 41 (.tmp 5) (.tmp 123) ?_ ?_ (.pointer (some ⟨g5, 0, none⟩)) (.agg #[.int .i64 P, .slice A16 nx.length c16]) ?_ ?_ HTU.out.1 (TS.tb (TB.setRow g5 w4 _) (by simp)) ?_; rotate_left 1; (focus (simp only [List.getElem?_toArray, List.getElem?_cons_zero, List.getElem?_cons_succ]; rfl)); (focus (rw [hops.out]; rfl)); (focus rfl); (focus rfl); (focus rfl); (focus rfl))
                repeat (refine sch_take (o := ?_) (v := ?_) (a' := ?_) (at_of hops.out ?_) ?_ (fun W hW => ?_) ?_ ?_; rotate_left 3; (focus (simp only [List.getElem?_toArray, List.getElem?_cons_zero, List.getElem?_cons_succ]; rfl)); (focus (rw [hops.out]; rfl)); (focus (go_simp; with_reducible rfl)); (focus (simp only [Act.put, List.setIfInBounds_toArray, List.set_cons_zero, List.set_cons_succ]; rfl)))
                refine sch_done ?_
                have HWX := Lib.hid HTU.out.2.2
                have HLX := HNX
                clear hops HTU HWY HDq K1 K2 HNF HRD HLC HFR HBK HGL HROW HWZ HFy HGX H10X H12
                generalize w4.setRow _ _ = wx at *
                obtain ⟨A9, c9, hrw, hrd, hlc, hcm⟩ := HWX.out.now
                have HRW9 := Lib.hid (row2 hrw)
                have HFRE := Lib.hid (fun W (h : FB _ W) => sp_Free P _ A9 c9 W (h.rdV hrd) HLX.out)
                have HCNT := Lib.hid (fun W (h : FB _ W) => sp_Count P _ A9 c9 W (h.rdV hrd) HLX.out)
                clear hrw hrd hlc hcm
                go_wp2_with fail
                obtain ⟨W0, hW0⟩ : ∃ W0 : World, W0 = wx := ⟨_, rfl⟩
                rw [← hW0]
                refine region_sch (E := FB) ((0, true) :: (3, true) :: (1, false) :: (2, true) :: (4, false) :: (5, true) :: []) (by kernel_rfl) FB.refl fb_trans (fun _ _ d _ _ h => by cases d <;> exact h) (by kernel_rfl) ?_
                intro ops hops0
                have hops := Lib.hid hops0
                clear hops0
                have HF : FB W0 W0.drew := (FB.refl _).drew
                generalize W0.drew = wF at *
                have HFx := Lib.hid (show FB wx wF from by rw [← hW0]; exact HF)
                clear hW0 HF
                have K1 := Lib.hid (FB.cell HFx.out HRW9.out.1)
                have K2 := Lib.hid (FB.cell HFx.out HRW9.out.2)
                have HF := FB.refl wF
                repeat (refine sch_take (o := ?_) (v := ?_) (a' := ?_) (at_of hops.out ?_) ?_ (fun W hW => ?_) ?_ ?_; rotate_left 3; (focus (simp only [List.getElem?_toArray, List.getElem?_cons_zero, List.getElem?_cons_succ]; rfl)); (focus (rw [hops.out]; rfl)); (focus (have u1 := FB.cell hW K1.out; have u2 := FB.cell hW K2.out; go_simp; with_reducible rfl)); (focus (simp only [Act.put, List.setIfInBounds_toArray, List.set_cons_zero, List.set_cons_succ]; rfl)))
                (refine sch_call (o := ?_) (f := ?_) (args := ?_) (at_of hops.out ?_) ?_ ?_ ?_; rotate_left 3; (focus (simp only [List.getElem?_toArray, List.getElem?_cons_zero, List.getElem?_cons_succ]; rfl)); (focus (rw [hops.out]; rfl)); (focus (go_simp; constructor <;> with_reducible rfl)); (first | ((with_reducible refine (HFRE.out _ (HFx.out.trans HF)).mono ?_); rintro e w' ⟨A20, c20, rfl, -, hb⟩; refine ⟨_, rfl, hb, ?_⟩; intro a' ha'; simp only [Act.put, List.setIfInBounds_toArray, List.set_cons_zero, List.set_cons_succ] at ha'; subst ha'; replace HF := HF.call hb; clear hb)))
                repeat (refine sch_take (o := ?_) (v := ?_) (a' := ?_) (at_of hops.out ?_) ?_ (fun W hW => ?_) ?_ ?_; rotate_left 3; (focus (simp only [List.getElem?_toArray, List.getElem?_cons_zero, List.getElem?_cons_succ]; rfl)); (focus (rw [hops.out]; rfl)); (focus (go_simp; with_reducible rfl)); (focus (simp only [Act.put, List.setIfInBounds_toArray, List.set_cons_zero, List.set_cons_succ]; rfl)))
                (refine sch_call (o := ?_) (f := ?_) (args := ?_) (at_of hops.out ?_) ?_ ?_ ?_; rotate_left 3; (focus (simp only [List.getElem?_toArray, List.getElem?_cons_zero, List.getElem?_cons_succ]; rfl)); (focus (rw [hops.out]; rfl)); (focus (go_simp; constructor <;> with_reducible rfl)); (first | ((with_reducible refine (HCNT.out _ (HFx.out.trans HF)).mono ?_); rintro e w'' ⟨rfl, hb⟩; refine ⟨_, rfl, hb, ?_⟩; intro a' ha'; simp only [Act.put, List.setIfInBounds_toArray, List.set_cons_zero, List.set_cons_succ] at ha'; subst ha'; replace HF := HF.call hb; clear hb)))
                repeat (refine sch_take (o := ?_) (v := ?_) (a' := ?_) (at_of hops.out ?_) ?_ (fun W hW => ?_) ?_ ?_; rotate_left 3; (focus (simp only [List.getElem?_toArray, List.getElem?_cons_zero, List.getElem?_cons_succ]; rfl)); (focus (rw [hops.out]; rfl)); (focus (go_simp; with_reducible rfl)); (focus (simp only [Act.put, List.setIfInBounds_toArray, List.set_cons_zero, List.set_cons_succ]; rfl)))
                refine sch_done ?_
                have HWE := Lib.hid (HWX.out.go (HFx.out.trans HF))
                clear hops HF K1 K2 HFRE HCNT HRW9 HFx
                go_wp2
                go_roundw
                case rel => exact ⟨i + 1, _, _, by omega, HDX.out, by go_num, rfl, HTX.out, by rw [← HCX.out]; exact HWE.out⟩
                case measure => simp [intOf]; omega
          · obtain rfl : i = zs.length := by omega
            have hil : ¬ (zs.length : Int) < (zs.length : Int) := by omega
            have HLB := Lib.hid (show ∀ ad, L1 = some ad → 0 < zs.length → ad.block < w.heap.size from fun ad ha hz => by
              obtain ⟨kb, ko, e2, hk, -⟩ := RdV.form HR1.out (by rw [List.length_map]; omega)
              rw [ha] at e2; cases e2; exact hk)
            obtain ⟨A6, c6, e6, hl6, -, -, -⟩ := OwnV.form HW.out.done
            rw [ivs_len] at e6 hl6
            subst e6
            have HL6 := Lib.hid hl6
            have hlw : IntKind.i64.wrap ((ds.length : Int) - 1) = (ds.length : Int) - 1 := by rw [IntKind.wrap_i64]; omega
            have HDL := Lib.hid hdl
            clear hl6 hdl
            go_wp2_with fail
            go_loopw [14] (fun c14 wl => ∃ j : Nat, j ≤ ds.length ∧ c14 = .int .i64 ((j : Int) - 1) ∧ Hid (CtW w g5 L1 zs P us (tgls us (ds.take j)) (.slice A6 ds.length c6) ds wl)) (fun c14 wl => (intOf c14 + 1).toNat)
            case atStart => exact ⟨ds.length, by omega, rfl, by rw [List.take_length]; exact HW.out⟩
            case round =>
              obtain ⟨j, hj, rfl, HU⟩ := hrel
              clear HW
              cases j with
              | zero =>
                obtain ⟨A8, c8, hrw8, hrd8, hlc8, hcm8⟩ := HU.out.now
                obtain ⟨A9, c9, hrw9, hrd9, hlc9, hcm9⟩ := HU.out.s
                have hcw := sp_Same P P (tgls us (ds.take 0)) us A8 A9 c8 c9 wr (by have := HPL.out; have e : tgls us (ds.take 0) = us := rfl; rw [e]; omega) (by omega) hrd8 hrd9
                rw [show spSame P (tgls us (ds.take 0)) P us = true from by have e : tgls us (ds.take 0) = us := rfl; rw [e]; simp [spSame]] at hcw
                have HC := Lib.hid hcw
                have R8 := row2 hrw8
                have R9 := row2 hrw9
                clear hcw hrd8 hrd9 hlc8 hcm8 hlc9 hcm9 hrw8 hrw9
                obtain ⟨q0, q1⟩ := R8
                obtain ⟨q2, q3⟩ := R9
                rw [show ((0 : Nat) : Int) - 1 = -1 from rfl]
                go_wp2_with fail
                refine HC.out.mono ?_
                rintro e w3 ⟨rfl, hb⟩
                have HFE := Lib.hid (HU.out.fb.trans hb)
                clear hb q0 q1 q2 q3 HC
                go_wp2_with fail
                go_ret
                exact ⟨rfl, HFE.out⟩
              | succ m =>
                have HLC := Lib.hid (show ∀ ad, L1 = some ad → ad.block < w.heap.size from fun ad ha => HLB.out ad ha (by have := HDL.out; omega))
                rw [show ((m + 1 : Nat) : Int) - 1 = (m : Int) from by omega]
                have hmi : (m : Int) < (ds.length : Int) := by omega
                have hwm : IntKind.i64.wrap ((m : Int) - 1) = (m : Int) - 1 := by rw [IntKind.wrap_i64]; have := HDL.out; omega
                have HTP := Lib.hid (TgOk.pre HOK.out HTG.out.all (m + 1))
                have hnall := HTG.out.all _ (List.getElem_mem (show m < ds.length by omega))
                have hund := tgls_undo (us := us) (ds := ds) (i := m) (by omega) (by rw [(TgOk.pre HOK.out HTG.out.all m).len]; exact hnall.2)
                have HIV := Lib.hid (show ∀ h, (ivs ds)[m]'h = .int .i64 ((ds[m] : Nat) : Int) from fun h => by simp [ivs])
                generalize ds[m] = n at *
                obtain ⟨cur, hcur⟩ : ∃ cur, cur = tgls us (ds.take (m + 1)) := ⟨_, rfl⟩
                rw [← hcur] at hund HU
                have HTO := Lib.hid (show spOk P cur = true ∧ cur.length = us.length from by rw [hcur]; exact ⟨HTP.out.ok, HTP.out.len⟩)
                have HN2 := Lib.hid hnall
                have HLX := Lib.hid (show cur.length ≤ 1000000000 from by rw [HTO.out.2]; omega)
                have HNX := Lib.hid (show (tgl cur n).length ≤ 1000000000 from by rw [tgl_len]; exact HLX.out)
                obtain ⟨b6, o6, e6, -, hcs⟩ := RdV.form (show RdV wr A6 (ivs ds) from by
                  have q := HU.out.done
                  rw [← ivs_len ds] at q
                  exact (OwnV.info q).2.2.1) (by rw [ivs_len]; omega)
                subst e6
                have hcell := hcs m (by rw [ivs_len]; omega)
                rw [HIV.out] at hcell
                have HCELL := Lib.hid hcell
                have HOB6 := Lib.hid (show b6 < wr.heap.size from (OwnV.base HU.out.done b6 rfl).2)
                have HOW6 := Lib.hid (show g5 < b6 from (OwnV.base HU.out.done b6 rfl).1)
                obtain ⟨A8, c8, hrw8, hrd8, hlc8, hcm8⟩ := HU.out.now
                have HR8 := Lib.hid (row2 hrw8)
                have HCU := Lib.hid (fun W (h : RdV W A8 (cur.map .bool)) => sp_UseF P cur A8 c8 (n : Int) W h HLX.out hlc8 hcm8)
                have HRD8 := Lib.hid hrd8
                have HG2 := Lib.hid (show g5 < wr.heap.size from HU.out.now.lt)
                clear hcur hnall hcs hcell hrw8 hrd8 hlc8 hcm8 HTP
                obtain ⟨ub, hub⟩ : ∃ ub, ub = cur.getD n false := ⟨_, rfl⟩
                cases ub
                · obtain ⟨k1, -, -, -⟩ := tg_free HTO.out.1 (by rw [HTO.out.2]; exact HN2.out.2) HN2.out.1 hub.symm
                  rw [k1] at HCU
                  clear k1 hub
                  generalize tgl cur n = nx at *
                  have HND := Lib.hid hund
                  clear hund
                  go_wp2_with fail
                  obtain ⟨W0, hW0⟩ : ∃ W0 : World, W0 = wr := ⟨_, rfl⟩
                  rw [← hW0]
                  refine region_schB (E := Below wr.heap.size) ([]) ([(0, true), (1, true), (2, true), (3, true), (4, true)]) (.two [(5, false), (6, true), (7, true), (8, true), (9, false), (10, false), (11, true)] .leaf [(9, false), (5, false), (6, true), (7, true), (8, true), (10, false), (11, true)] .leaf) ([]) (by kernel_rfl) (Below.refl _) (fun _ _ _ h k => Below.trans h k) (fun _ _ d _ _ h => by cases d <;> exact h) (by kernel_rfl) ?_
                  intro ops hops0
                  have hops := Lib.hid hops0
                  clear hops0
                  have HD : FB W0 W0.drew := (FB.refl _).drew
                  generalize W0.drew = wF0 at *
                  rw [hW0] at HD
                  clear hW0
                  have HDq := Lib.hid HD
                  clear HD
                  have K1 := Lib.hid (FB.cell HDq.out HR8.out.1)
                  have K2 := Lib.hid (FB.cell HDq.out HR8.out.2)
                  have K3 := Lib.hid (FB.cell HDq.out HCELL.out)
                  refine sch_done ?_
                  refine schB_pre ?_
                  repeat (refine sch_take (o := ?_) (v := ?_) (a' := ?_) (at_of hops.out ?_) ?_ (fun W hW => ?_) ?_ ?_; rotate_left 3; (focus (simp only [List.getElem?_toArray, List.getElem?_cons_zero, List.getElem?_cons_succ]; rfl)); (focus (rw [hops.out]; rfl)); (focus (have u1 := bl_cell hW K1.out HG2.out; have u2 := bl_cell hW K2.out HG2.out; have u3 := bl_cell hW K3.out HOB6.out; go_simp; with_reducible rfl)); (focus (simp only [Act.put, List.setIfInBounds_toArray, List.set_cons_zero, List.set_cons_succ]; rfl)))
                  refine sch_done ?_
                  refine schB_two ?_ ?_
                  · skip
                    (refine sch_call (o := ?_) (f := ?_) (args := ?_) (at_of hops.out ?_) ?_ ?_ ?_; rotate_left 3; (focus (simp only [List.getElem?_toArray, List.getElem?_cons_zero, List.getElem?_cons_succ]; rfl)); (focus (rw [hops.out]; rfl)); (focus (go_simp; constructor <;> with_reducible rfl)); (first | ((with_reducible refine (HCU.out _ (HDq.out.rdV HRD8.out)).mono ?_); rintro e w1 ⟨A20, c20, rfl, hr20, hc20, hm20, hb, hf20⟩; refine ⟨_, rfl, (Below.mono hb HDq.out.le), ?_⟩; intro a' ha'; simp only [Act.put, List.setIfInBounds_toArray, List.set_cons_zero, List.set_cons_succ] at ha'; subst ha')))
                    repeat (refine sch_take (o := ?_) (v := ?_) (a' := ?_) (at_of hops.out ?_) ?_ (fun W hW => ?_) ?_ ?_; rotate_left 3; (focus (simp only [List.getElem?_toArray, List.getElem?_cons_zero, List.getElem?_cons_succ]; rfl)); (focus (rw [hops.out]; rfl)); (focus (go_simp; with_reducible rfl)); (focus (simp only [Act.put, List.setIfInBounds_toArray, List.set_cons_zero, List.set_cons_succ]; rfl)))
                    (refine sch_run (o := ?_) (v := ?_) (a' := ?_) (w' := ?_) (at_of hops.out ?_) ?_ ?_ ?_ ?_ ?_; rotate_left 4; (focus (simp only [List.getElem?_toArray, List.getElem?_cons_zero, List.getElem?_cons_succ]; rfl)); (focus (rw [hops.out]; rfl)); (focus (go_simp; constructor <;> with_reducible rfl)); (focus (exact Below.alloc (Below.refl _ _) (HDq.out.trans hb).le _)); (focus (simp only [Act.put, List.setIfInBounds_toArray, List.set_cons_zero, List.set_cons_succ]; rfl)))
                    have HUA := Lib.hid (HU.out.go ((HDq.out.trans hb).alloc (.cells #[.int .i64 0, .slice none 0 0] 41)))
                    have HXA := Lib.hid (show SpB (w1.alloc (.cells #[.int .i64 0, .slice none 0 0] 41)) w1.heap.size 0 [] from SpB.new (us := []) (A := none) (c := 0) (RdV.nil _ _) (by simp) (by simp [maxLen]) rfl)
                    have HRA := Lib.hid (((FB.refl w1).alloc (.cells #[.int .i64 0, .slice none 0 0] 41)).rdV hr20)
                    have HGX := Lib.hid (show g5 < w1.heap.size from Nat.lt_of_lt_of_le HG2.out ((HDq.out.trans hb).le))
                    have HOX := Lib.hid (show b6 < w1.heap.size from Nat.lt_of_lt_of_le HOB6.out ((HDq.out.trans hb).le))
                    have HNG := Lib.hid (show wr.heap.size ≤ w1.heap.size from (HDq.out.trans hb).le)
                    clear hb hr20 hf20 HCU HRD8 HDq K1 K2 K3 HU
                    generalize w1.alloc _ = wA at *
                    generalize w1.heap.size = gX at *
                    have HTU := Lib.hid (CtW.put (P1 := P) HUA.out HG.out HLC.out HXA.out HGX.out (fun k hk => by cases hk; exact HOX.out) HRA.out hc20 hm20)
                    (refine sch_storeR (o := ?_) (at_of hops.out ?_) ?_ 41 (.tmp 15) (.tmp 148) ?_ ?_ (.pointer (some ⟨gX, 0, none⟩)) (.agg #[.int .i64 P, .slice A20 nx.length c20]) ?_ ?_ HTU.out.1 (below_setRow (Below.refl _ _) HNG.out _) ?_; rotate_left 1; (focus (simp only [List.getElem?_toArray, List.getElem?_cons_zero, List.getElem?_cons_succ]; rfl)); (focus (rw [hops.out]; rfl)); (focus rfl); (focus rfl); (focus rfl); (focus rfl))
                    repeat (refine sch_take (o := ?_) (v := ?_) (a' := ?_) (at_of hops.out ?_) ?_ (fun W hW => ?_) ?_ ?_; rotate_left 3; (focus (simp only [List.getElem?_toArray, List.getElem?_cons_zero, List.getElem?_cons_succ]; rfl)); (focus (rw [hops.out]; rfl)); (focus (go_simp; with_reducible rfl)); (focus (simp only [Act.put, List.setIfInBounds_toArray, List.set_cons_zero, List.set_cons_succ]; rfl)))
                    refine sch_done ?_
                    refine schB_leaf ?_
                    refine sch_done ?_
                    have HUB := Lib.hid HTU.out.2.1
                    have HXC := Lib.hid HTU.out.2.2
                    clear HTU HUA HXA HRA hops
                    generalize wA.setRow _ _ = wB at *
                    obtain ⟨A31, c31, hrw, hrd, hlc, hcm⟩ := HXC.out
                    have hst := CtW.lay HUB.out HG.out HLC.out hrd hlc hcm
                    have HUD := Lib.hid hst.2
                    have hst1 := hst.1
                    obtain ⟨q0, q1⟩ := row2 hrw
                    clear hst hrw hrd hlc hcm
                    go_wp2_with (refine wpList_store_by rfl _ _ _ rfl _ hst1 ?_)
                    go_roundw
                    case rel => exact ⟨m, by omega, rfl, by rw [← HND.out]; exact HUD.out⟩
                    case measure => simp [intOf]
                  · skip
                    (refine sch_run (o := ?_) (v := ?_) (a' := ?_) (w' := ?_) (at_of hops.out ?_) ?_ ?_ ?_ ?_ ?_; rotate_left 4; (focus (simp only [List.getElem?_toArray, List.getElem?_cons_zero, List.getElem?_cons_succ]; rfl)); (focus (rw [hops.out]; rfl)); (focus (go_simp; constructor <;> with_reducible rfl)); (focus (exact Below.alloc (Below.refl _ _) HDq.out.le _)); (focus (simp only [Act.put, List.setIfInBounds_toArray, List.set_cons_zero, List.set_cons_succ]; rfl)))
                    have HXB := Lib.hid (show SpB (wF0.alloc (.cells #[.int .i64 0, .slice none 0 0] 41)) wF0.heap.size 0 [] from SpB.new (us := []) (A := none) (c := 0) (RdV.nil _ _) (by simp) (by simp [maxLen]) rfl)
                    have HGX := Lib.hid (show g5 < wF0.heap.size from Nat.lt_of_lt_of_le HG2.out (HDq.out.le))
                    have HOX := Lib.hid (show b6 < wF0.heap.size from Nat.lt_of_lt_of_le HOB6.out (HDq.out.le))
                    have HDr := Lib.hid (HDq.out.alloc (.cells #[.int .i64 0, .slice none 0 0] 41))
                    have HNG := Lib.hid (show wr.heap.size ≤ wF0.heap.size from HDq.out.le)
                    clear HDq K1 K2 K3
                    generalize wF0.alloc _ = wD at *
                    generalize wF0.heap.size = gX at *
                    (refine sch_call (o := ?_) (f := ?_) (args := ?_) (at_of hops.out ?_) ?_ ?_ ?_; rotate_left 3; (focus (simp only [List.getElem?_toArray, List.getElem?_cons_zero, List.getElem?_cons_succ]; rfl)); (focus (rw [hops.out]; rfl)); (focus (go_simp; constructor <;> with_reducible rfl)); (first | ((with_reducible refine (HCU.out _ (HDr.out.rdV HRD8.out)).mono ?_); rintro e wA ⟨A20, c20, rfl, hr20, hc20, hm20, hb, hf20⟩; refine ⟨_, rfl, (Below.mono hb HDr.out.le), ?_⟩; intro a' ha'; simp only [Act.put, List.setIfInBounds_toArray, List.set_cons_zero, List.set_cons_succ] at ha'; subst ha')))
                    repeat (refine sch_take (o := ?_) (v := ?_) (a' := ?_) (at_of hops.out ?_) ?_ (fun W hW => ?_) ?_ ?_; rotate_left 3; (focus (simp only [List.getElem?_toArray, List.getElem?_cons_zero, List.getElem?_cons_succ]; rfl)); (focus (rw [hops.out]; rfl)); (focus (go_simp; with_reducible rfl)); (focus (simp only [Act.put, List.setIfInBounds_toArray, List.set_cons_zero, List.set_cons_succ]; rfl)))
                    have HUA := Lib.hid (HU.out.go (HDr.out.trans hb))
                    have HXA := Lib.hid (HXB.out.fb hb)
                    have HRA := Lib.hid hr20
                    clear hb hr20 hf20 HCU HRD8 HDr HXB HU
                    have HTU := Lib.hid (CtW.put (P1 := P) HUA.out HG.out HLC.out HXA.out HGX.out (fun k hk => by cases hk; exact HOX.out) HRA.out hc20 hm20)
                    (refine sch_storeR (o := ?_) (at_of hops.out ?_) ?_ 41 (.tmp 15) (.tmp 148) ?_ ?_ (.pointer (some ⟨gX, 0, none⟩)) (.agg #[.int .i64 P, .slice A20 nx.length c20]) ?_ ?_ HTU.out.1 (below_setRow (Below.refl _ _) HNG.out _) ?_; rotate_left 1; (focus (simp only [List.getElem?_toArray, List.getElem?_cons_zero, List.getElem?_cons_succ]; rfl)); (focus (rw [hops.out]; rfl)); (focus rfl); (focus rfl); (focus rfl); (focus rfl))
                    repeat (refine sch_take (o := ?_) (v := ?_) (a' := ?_) (at_of hops.out ?_) ?_ (fun W hW => ?_) ?_ ?_; rotate_left 3; (focus (simp only [List.getElem?_toArray, List.getElem?_cons_zero, List.getElem?_cons_succ]; rfl)); (focus (rw [hops.out]; rfl)); (focus (go_simp; with_reducible rfl)); (focus (simp only [Act.put, List.setIfInBounds_toArray, List.set_cons_zero, List.set_cons_succ]; rfl)))
                    refine sch_done ?_
                    refine schB_leaf ?_
                    refine sch_done ?_
                    have HUB := Lib.hid HTU.out.2.1
                    have HXC := Lib.hid HTU.out.2.2
                    clear HTU HUA HXA HRA hops
                    generalize wA.setRow _ _ = wB at *
                    obtain ⟨A31, c31, hrw, hrd, hlc, hcm⟩ := HXC.out
                    have hst := CtW.lay HUB.out HG.out HLC.out hrd hlc hcm
                    have HUD := Lib.hid hst.2
                    have hst1 := hst.1
                    obtain ⟨q0, q1⟩ := row2 hrw
                    clear hst hrw hrd hlc hcm
                    go_wp2_with (refine wpList_store_by rfl _ _ _ rfl _ hst1 ?_)
                    go_roundw
                    case rel => exact ⟨m, by omega, rfl, by rw [← HND.out]; exact HUD.out⟩
                    case measure => simp [intOf]
                · obtain ⟨k0, -, -, -⟩ := tg_used HTO.out.1 (by rw [HTO.out.2]; exact HN2.out.2) HN2.out.1 hub.symm
                  obtain ⟨-, k1, -, -⟩ := tg_used HTO.out.1 (by rw [HTO.out.2]; exact HN2.out.2) HN2.out.1 hub.symm
                  rw [k0] at HCU
                  have HGV := Lib.hid k1
                  clear k0 k1 hub
                  generalize tgl cur n = nx at *
                  have HND := Lib.hid hund
                  clear hund
                  go_wp2_with fail
                  obtain ⟨W0, hW0⟩ : ∃ W0 : World, W0 = wr := ⟨_, rfl⟩
                  rw [← hW0]
                  refine region_schB (E := Below wr.heap.size) ([]) ([(0, true), (1, true), (2, true), (3, true), (4, true)]) (.two [(5, false), (6, true), (7, true), (8, true), (9, false), (10, false), (11, true)] .leaf [(9, false), (5, false), (6, true), (7, true), (8, true), (10, false), (11, true)] .leaf) ([]) (by kernel_rfl) (Below.refl _) (fun _ _ _ h k => Below.trans h k) (fun _ _ d _ _ h => by cases d <;> exact h) (by kernel_rfl) ?_
                  intro ops hops0
                  have hops := Lib.hid hops0
                  clear hops0
                  have HD : FB W0 W0.drew := (FB.refl _).drew
                  generalize W0.drew = wF0 at *
                  rw [hW0] at HD
                  clear hW0
                  have HDq := Lib.hid HD
                  clear HD
                  have K1 := Lib.hid (FB.cell HDq.out HR8.out.1)
                  have K2 := Lib.hid (FB.cell HDq.out HR8.out.2)
                  have K3 := Lib.hid (FB.cell HDq.out HCELL.out)
                  refine sch_done ?_
                  refine schB_pre ?_
                  repeat (refine sch_take (o := ?_) (v := ?_) (a' := ?_) (at_of hops.out ?_) ?_ (fun W hW => ?_) ?_ ?_; rotate_left 3; (focus (simp only [List.getElem?_toArray, List.getElem?_cons_zero, List.getElem?_cons_succ]; rfl)); (focus (rw [hops.out]; rfl)); (focus (have u1 := bl_cell hW K1.out HG2.out; have u2 := bl_cell hW K2.out HG2.out; have u3 := bl_cell hW K3.out HOB6.out; go_simp; with_reducible rfl)); (focus (simp only [Act.put, List.setIfInBounds_toArray, List.set_cons_zero, List.set_cons_succ]; rfl)))
                  refine sch_done ?_
                  refine schB_two ?_ ?_
                  · skip
                    (refine sch_call (o := ?_) (f := ?_) (args := ?_) (at_of hops.out ?_) ?_ ?_ ?_; rotate_left 3; (focus (simp only [List.getElem?_toArray, List.getElem?_cons_zero, List.getElem?_cons_succ]; rfl)); (focus (rw [hops.out]; rfl)); (focus (go_simp; constructor <;> with_reducible rfl)); (first | ((with_reducible refine (HCU.out _ (HDq.out.rdV HRD8.out)).mono ?_); rintro e w1 ⟨A20, c20, rfl, hr20, hc20, hm20, hb, hf20⟩; refine ⟨_, rfl, (Below.mono hb HDq.out.le), ?_⟩; intro a' ha'; simp only [Act.put, List.setIfInBounds_toArray, List.set_cons_zero, List.set_cons_succ] at ha'; subst ha')))
                    repeat (refine sch_take (o := ?_) (v := ?_) (a' := ?_) (at_of hops.out ?_) ?_ (fun W hW => ?_) ?_ ?_; rotate_left 3; (focus (simp only [List.getElem?_toArray, List.getElem?_cons_zero, List.getElem?_cons_succ]; rfl)); (focus (rw [hops.out]; rfl)); (focus (go_simp; with_reducible rfl)); (focus (simp only [Act.put, List.setIfInBounds_toArray, List.set_cons_zero, List.set_cons_succ]; rfl)))
                    (refine sch_run (o := ?_) (v := ?_) (a' := ?_) (w' := ?_) (at_of hops.out ?_) ?_ ?_ ?_ ?_ ?_; rotate_left 4; (focus (simp only [List.getElem?_toArray, List.getElem?_cons_zero, List.getElem?_cons_succ]; rfl)); (focus (rw [hops.out]; rfl)); (focus (go_simp; constructor <;> with_reducible rfl)); (focus (exact Below.alloc (Below.refl _ _) (HDq.out.trans hb).le _)); (focus (simp only [Act.put, List.setIfInBounds_toArray, List.set_cons_zero, List.set_cons_succ]; rfl)))
                    have HUA := Lib.hid (HU.out.go ((HDq.out.trans hb).alloc (.cells #[.int .i64 0, .slice none 0 0] 41)))
                    have HXA := Lib.hid (show SpB (w1.alloc (.cells #[.int .i64 0, .slice none 0 0] 41)) w1.heap.size 0 [] from SpB.new (us := []) (A := none) (c := 0) (RdV.nil _ _) (by simp) (by simp [maxLen]) rfl)
                    have HRA := Lib.hid (((FB.refl w1).alloc (.cells #[.int .i64 0, .slice none 0 0] 41)).rdV hr20)
                    have HGX := Lib.hid (show g5 < w1.heap.size from Nat.lt_of_lt_of_le HG2.out ((HDq.out.trans hb).le))
                    have HOX := Lib.hid (show b6 < w1.heap.size from Nat.lt_of_lt_of_le HOB6.out ((HDq.out.trans hb).le))
                    have HNG := Lib.hid (show wr.heap.size ≤ w1.heap.size from (HDq.out.trans hb).le)
                    clear hb hr20 hf20 HCU HRD8 HDq K1 K2 K3 HU
                    generalize w1.alloc _ = wA at *
                    generalize w1.heap.size = gX at *
                    have HTU := Lib.hid (CtW.put (P1 := 0) (nx := []) HUA.out HG.out HLC.out HXA.out HGX.out (fun k hk => by cases hk; exact HOX.out) HRA.out hc20 hm20)
                    (refine sch_storeR (o := ?_) (at_of hops.out ?_) ?_ 41 (.tmp 15) (.tmp 148) ?_ ?_ (.pointer (some ⟨gX, 0, none⟩)) (.agg #[.int .i64 0, .slice A20 0 c20]) ?_ ?_ HTU.out.1 (below_setRow (Below.refl _ _) HNG.out _) ?_; rotate_left 1; (focus (simp only [List.getElem?_toArray, List.getElem?_cons_zero, List.getElem?_cons_succ]; rfl)); (focus (rw [hops.out]; rfl)); (focus rfl); (focus rfl); (focus rfl); (focus rfl))
                    repeat (refine sch_take (o := ?_) (v := ?_) (a' := ?_) (at_of hops.out ?_) ?_ (fun W hW => ?_) ?_ ?_; rotate_left 3; (focus (simp only [List.getElem?_toArray, List.getElem?_cons_zero, List.getElem?_cons_succ]; rfl)); (focus (rw [hops.out]; rfl)); (focus (go_simp; with_reducible rfl)); (focus (simp only [Act.put, List.setIfInBounds_toArray, List.set_cons_zero, List.set_cons_succ]; rfl)))
                    refine sch_done ?_
                    refine schB_leaf ?_
                    refine sch_done ?_
                    have HUC := Lib.hid HTU.out.2.1
                    have HXC := Lib.hid HTU.out.2.2
                    clear HTU HUA HXA HRA hops
                    generalize wA.setRow _ _ = wC at *
                    obtain ⟨A8, c8, hrw8, hrd8, hlc8, hcm8⟩ := HUC.out.now
                    have HR8 := Lib.hid (row2 hrw8)
                    have HCG := Lib.hid (fun W (h : RdV W A8 (cur.map .bool)) => by
                      have q := sp_GiveF P cur A8 c8 (n : Int) W h HLX.out hlc8 hcm8
                      rw [HGV.out] at q; exact q)
                    have HRD8 := Lib.hid hrd8
                    obtain ⟨b7, o7, e7, -, hcs⟩ := RdV.form (show RdV wC (some ⟨b6, o6, none⟩) (ivs ds) from by
                      have q := HUC.out.done
                      rw [← ivs_len ds] at q
                      exact (OwnV.info q).2.2.1) (by rw [ivs_len]; omega)
                    cases e7
                    have hcell := hcs m (by rw [ivs_len]; omega)
                    rw [HIV.out] at hcell
                    have HCELL := Lib.hid hcell
                    clear hrw8 hrd8 hlc8 hcm8 hcs hcell
                    go_wp2_with fail
                    obtain ⟨W0, hW0⟩ : ∃ W0 : World, W0 = wC := ⟨_, rfl⟩
                    rw [← hW0]
                    refine region_sch (E := TS ([gX])) ((0, true) :: (1, true) :: (2, true) :: (3, true) :: (4, true) :: (5, false) :: (6, true) :: (7, true) :: (8, true) :: (9, false) :: (10, true) :: []) (by kernel_rfl) (TS.refl _) (fun _ _ _ h k => TS.then h k) (fun _ _ d _ _ h => by cases d <;> exact h) (by kernel_rfl) ?_
                    intro ops hops0
                    have hops := Lib.hid hops0
                    clear hops0
                    have HF : TS ([gX]) W0 W0.drew := TS.of (FB.refl _).drew
                    have HD : FB W0 W0.drew := (FB.refl _).drew
                    generalize W0.drew = wF0 at *
                    rw [hW0] at HD
                    have HDq := Lib.hid HD
                    clear hW0 HF HD
                    have K1 := Lib.hid (FB.cell HDq.out HR8.out.1)
                    have K2 := Lib.hid (FB.cell HDq.out HR8.out.2)
                    have K3 := Lib.hid (FB.cell HDq.out HCELL.out)
                    have HN1 := Lib.hid (show g5 ∉ [gX] from by have := HGX.out; simp; omega)
                    have HN3 := Lib.hid (show b6 ∉ [gX] from by have := HOX.out; simp; omega)
                    repeat (refine sch_take (o := ?_) (v := ?_) (a' := ?_) (at_of hops.out ?_) ?_ (fun W hW => ?_) ?_ ?_; rotate_left 3; (focus (simp only [List.getElem?_toArray, List.getElem?_cons_zero, List.getElem?_cons_succ]; rfl)); (focus (rw [hops.out]; rfl)); (focus (have u1 := TS.cell hW K1.out HN1.out; have u2 := TS.cell hW K2.out HN1.out; have u3 := TS.cell hW K3.out HN3.out; go_simp; with_reducible rfl)); (focus (simp only [Act.put, List.setIfInBounds_toArray, List.set_cons_zero, List.set_cons_succ]; rfl)))
                    (refine sch_call (o := ?_) (f := ?_) (args := ?_) (at_of hops.out ?_) ?_ ?_ ?_; rotate_left 3; (focus (simp only [List.getElem?_toArray, List.getElem?_cons_zero, List.getElem?_cons_succ]; rfl)); (focus (rw [hops.out]; rfl)); (focus (go_simp; constructor <;> with_reducible rfl)); (first | ((with_reducible refine (HCG.out _ (HDq.out.rdV HRD8.out)).mono ?_); rintro e w1 ⟨A30, c30, rfl, hr30, hc30, hm30, hb, hf30⟩; refine ⟨_, rfl, TS.of hb, ?_⟩; intro a' ha'; simp only [Act.put, List.setIfInBounds_toArray, List.set_cons_zero, List.set_cons_succ] at ha'; subst ha')))
                    repeat (refine sch_take (o := ?_) (v := ?_) (a' := ?_) (at_of hops.out ?_) ?_ (fun W hW => ?_) ?_ ?_; rotate_left 3; (focus (simp only [List.getElem?_toArray, List.getElem?_cons_zero, List.getElem?_cons_succ]; rfl)); (focus (rw [hops.out]; rfl)); (focus (go_simp; with_reducible rfl)); (focus (simp only [Act.put, List.setIfInBounds_toArray, List.set_cons_zero, List.set_cons_succ]; rfl)))
                    have HUE := Lib.hid (HUC.out.go (HDq.out.trans hb))
                    have HXE := Lib.hid (HXC.out.fb (HDq.out.trans hb))
                    have HTU := Lib.hid (CtW.put (P1 := P) HUE.out HG.out HLC.out HXE.out HGX.out (fun k hk => by cases hk; exact HOX.out) hr30 hc30 hm30)
                    clear hb hr30 hf30
                    (refine sch_storeR (o := ?_) (at_of hops.out ?_) ?_ 41 (.tmp 15) (.tmp 159) ?_ ?_ (.pointer (some ⟨gX, 0, none⟩)) (.agg #[.int .i64 P, .slice A30 nx.length c30]) ?_ ?_ HTU.out.1 (TS.tb (TB.setRow gX w1 _) (by simp)) ?_; rotate_left 1; (focus (simp only [List.getElem?_toArray, List.getElem?_cons_zero, List.getElem?_cons_succ]; rfl)); (focus (rw [hops.out]; rfl)); (focus rfl); (focus rfl); (focus rfl); (focus rfl))
                    repeat (refine sch_take (o := ?_) (v := ?_) (a' := ?_) (at_of hops.out ?_) ?_ (fun W hW => ?_) ?_ ?_; rotate_left 3; (focus (simp only [List.getElem?_toArray, List.getElem?_cons_zero, List.getElem?_cons_succ]; rfl)); (focus (rw [hops.out]; rfl)); (focus (go_simp; with_reducible rfl)); (focus (simp only [Act.put, List.setIfInBounds_toArray, List.set_cons_zero, List.set_cons_succ]; rfl)))
                    refine sch_done ?_
                    have HUB := Lib.hid HTU.out.2.1
                    have HXC := Lib.hid HTU.out.2.2
                    clear HTU HUE HXE HCG hops HDq K1 K2 K3 HRD8
                    generalize w1.setRow _ _ = wB at *
                    obtain ⟨A31, c31, hrw, hrd, hlc, hcm⟩ := HXC.out
                    have hst := CtW.lay HUB.out HG.out HLC.out hrd hlc hcm
                    have HUD := Lib.hid hst.2
                    have hst1 := hst.1
                    obtain ⟨q0, q1⟩ := row2 hrw
                    clear hst hrw hrd hlc hcm
                    go_wp2_with (refine wpList_store_by rfl _ _ _ rfl _ hst1 ?_)
                    go_roundw
                    case rel => exact ⟨m, by omega, rfl, by rw [← HND.out]; exact HUD.out⟩
                    case measure => simp [intOf]
                  · skip
                    (refine sch_run (o := ?_) (v := ?_) (a' := ?_) (w' := ?_) (at_of hops.out ?_) ?_ ?_ ?_ ?_ ?_; rotate_left 4; (focus (simp only [List.getElem?_toArray, List.getElem?_cons_zero, List.getElem?_cons_succ]; rfl)); (focus (rw [hops.out]; rfl)); (focus (go_simp; constructor <;> with_reducible rfl)); (focus (exact Below.alloc (Below.refl _ _) HDq.out.le _)); (focus (simp only [Act.put, List.setIfInBounds_toArray, List.set_cons_zero, List.set_cons_succ]; rfl)))
                    have HXB := Lib.hid (show SpB (wF0.alloc (.cells #[.int .i64 0, .slice none 0 0] 41)) wF0.heap.size 0 [] from SpB.new (us := []) (A := none) (c := 0) (RdV.nil _ _) (by simp) (by simp [maxLen]) rfl)
                    have HGX := Lib.hid (show g5 < wF0.heap.size from Nat.lt_of_lt_of_le HG2.out (HDq.out.le))
                    have HOX := Lib.hid (show b6 < wF0.heap.size from Nat.lt_of_lt_of_le HOB6.out (HDq.out.le))
                    have HDr := Lib.hid (HDq.out.alloc (.cells #[.int .i64 0, .slice none 0 0] 41))
                    have HNG := Lib.hid (show wr.heap.size ≤ wF0.heap.size from HDq.out.le)
                    clear HDq K1 K2 K3
                    generalize wF0.alloc _ = wD at *
                    generalize wF0.heap.size = gX at *
                    (refine sch_call (o := ?_) (f := ?_) (args := ?_) (at_of hops.out ?_) ?_ ?_ ?_; rotate_left 3; (focus (simp only [List.getElem?_toArray, List.getElem?_cons_zero, List.getElem?_cons_succ]; rfl)); (focus (rw [hops.out]; rfl)); (focus (go_simp; constructor <;> with_reducible rfl)); (first | ((with_reducible refine (HCU.out _ (HDr.out.rdV HRD8.out)).mono ?_); rintro e wA ⟨A20, c20, rfl, hr20, hc20, hm20, hb, hf20⟩; refine ⟨_, rfl, (Below.mono hb HDr.out.le), ?_⟩; intro a' ha'; simp only [Act.put, List.setIfInBounds_toArray, List.set_cons_zero, List.set_cons_succ] at ha'; subst ha')))
                    repeat (refine sch_take (o := ?_) (v := ?_) (a' := ?_) (at_of hops.out ?_) ?_ (fun W hW => ?_) ?_ ?_; rotate_left 3; (focus (simp only [List.getElem?_toArray, List.getElem?_cons_zero, List.getElem?_cons_succ]; rfl)); (focus (rw [hops.out]; rfl)); (focus (go_simp; with_reducible rfl)); (focus (simp only [Act.put, List.setIfInBounds_toArray, List.set_cons_zero, List.set_cons_succ]; rfl)))
                    have HUA := Lib.hid (HU.out.go (HDr.out.trans hb))
                    have HXA := Lib.hid (HXB.out.fb hb)
                    have HRA := Lib.hid hr20
                    clear hb hr20 hf20 HCU HRD8 HDr HXB HU
                    have HTU := Lib.hid (CtW.put (P1 := 0) (nx := []) HUA.out HG.out HLC.out HXA.out HGX.out (fun k hk => by cases hk; exact HOX.out) HRA.out hc20 hm20)
                    (refine sch_storeR (o := ?_) (at_of hops.out ?_) ?_ 41 (.tmp 15) (.tmp 148) ?_ ?_ (.pointer (some ⟨gX, 0, none⟩)) (.agg #[.int .i64 0, .slice A20 0 c20]) ?_ ?_ HTU.out.1 (below_setRow (Below.refl _ _) HNG.out _) ?_; rotate_left 1; (focus (simp only [List.getElem?_toArray, List.getElem?_cons_zero, List.getElem?_cons_succ]; rfl)); (focus (rw [hops.out]; rfl)); (focus rfl); (focus rfl); (focus rfl); (focus rfl))
                    repeat (refine sch_take (o := ?_) (v := ?_) (a' := ?_) (at_of hops.out ?_) ?_ (fun W hW => ?_) ?_ ?_; rotate_left 3; (focus (simp only [List.getElem?_toArray, List.getElem?_cons_zero, List.getElem?_cons_succ]; rfl)); (focus (rw [hops.out]; rfl)); (focus (go_simp; with_reducible rfl)); (focus (simp only [Act.put, List.setIfInBounds_toArray, List.set_cons_zero, List.set_cons_succ]; rfl)))
                    refine sch_done ?_
                    refine schB_leaf ?_
                    refine sch_done ?_
                    have HUC := Lib.hid HTU.out.2.1
                    have HXC := Lib.hid HTU.out.2.2
                    clear HTU HUA HXA HRA hops
                    generalize wA.setRow _ _ = wC at *
                    obtain ⟨A8, c8, hrw8, hrd8, hlc8, hcm8⟩ := HUC.out.now
                    have HR8 := Lib.hid (row2 hrw8)
                    have HCG := Lib.hid (fun W (h : RdV W A8 (cur.map .bool)) => by
                      have q := sp_GiveF P cur A8 c8 (n : Int) W h HLX.out hlc8 hcm8
                      rw [HGV.out] at q; exact q)
                    have HRD8 := Lib.hid hrd8
                    obtain ⟨b7, o7, e7, -, hcs⟩ := RdV.form (show RdV wC (some ⟨b6, o6, none⟩) (ivs ds) from by
                      have q := HUC.out.done
                      rw [← ivs_len ds] at q
                      exact (OwnV.info q).2.2.1) (by rw [ivs_len]; omega)
                    cases e7
                    have hcell := hcs m (by rw [ivs_len]; omega)
                    rw [HIV.out] at hcell
                    have HCELL := Lib.hid hcell
                    clear hrw8 hrd8 hlc8 hcm8 hcs hcell
                    go_wp2_with fail
                    obtain ⟨W0, hW0⟩ : ∃ W0 : World, W0 = wC := ⟨_, rfl⟩
                    rw [← hW0]
                    refine region_sch (E := TS ([gX])) ((0, true) :: (1, true) :: (2, true) :: (3, true) :: (4, true) :: (5, false) :: (6, true) :: (7, true) :: (8, true) :: (9, false) :: (10, true) :: []) (by kernel_rfl) (TS.refl _) (fun _ _ _ h k => TS.then h k) (fun _ _ d _ _ h => by cases d <;> exact h) (by kernel_rfl) ?_
                    intro ops hops0
                    have hops := Lib.hid hops0
                    clear hops0
                    have HF : TS ([gX]) W0 W0.drew := TS.of (FB.refl _).drew
                    have HD : FB W0 W0.drew := (FB.refl _).drew
                    generalize W0.drew = wF0 at *
                    rw [hW0] at HD
                    have HDq := Lib.hid HD
                    clear hW0 HF HD
                    have K1 := Lib.hid (FB.cell HDq.out HR8.out.1)
                    have K2 := Lib.hid (FB.cell HDq.out HR8.out.2)
                    have K3 := Lib.hid (FB.cell HDq.out HCELL.out)
                    have HN1 := Lib.hid (show g5 ∉ [gX] from by have := HGX.out; simp; omega)
                    have HN3 := Lib.hid (show b6 ∉ [gX] from by have := HOX.out; simp; omega)
                    repeat (refine sch_take (o := ?_) (v := ?_) (a' := ?_) (at_of hops.out ?_) ?_ (fun W hW => ?_) ?_ ?_; rotate_left 3; (focus (simp only [List.getElem?_toArray, List.getElem?_cons_zero, List.getElem?_cons_succ]; rfl)); (focus (rw [hops.out]; rfl)); (focus (have u1 := TS.cell hW K1.out HN1.out; have u2 := TS.cell hW K2.out HN1.out; have u3 := TS.cell hW K3.out HN3.out; go_simp; with_reducible rfl)); (focus (simp only [Act.put, List.setIfInBounds_toArray, List.set_cons_zero, List.set_cons_succ]; rfl)))
                    (refine sch_call (o := ?_) (f := ?_) (args := ?_) (at_of hops.out ?_) ?_ ?_ ?_; rotate_left 3; (focus (simp only [List.getElem?_toArray, List.getElem?_cons_zero, List.getElem?_cons_succ]; rfl)); (focus (rw [hops.out]; rfl)); (focus (go_simp; constructor <;> with_reducible rfl)); (first | ((with_reducible refine (HCG.out _ (HDq.out.rdV HRD8.out)).mono ?_); rintro e w1 ⟨A30, c30, rfl, hr30, hc30, hm30, hb, hf30⟩; refine ⟨_, rfl, TS.of hb, ?_⟩; intro a' ha'; simp only [Act.put, List.setIfInBounds_toArray, List.set_cons_zero, List.set_cons_succ] at ha'; subst ha')))
                    repeat (refine sch_take (o := ?_) (v := ?_) (a' := ?_) (at_of hops.out ?_) ?_ (fun W hW => ?_) ?_ ?_; rotate_left 3; (focus (simp only [List.getElem?_toArray, List.getElem?_cons_zero, List.getElem?_cons_succ]; rfl)); (focus (rw [hops.out]; rfl)); (focus (go_simp; with_reducible rfl)); (focus (simp only [Act.put, List.setIfInBounds_toArray, List.set_cons_zero, List.set_cons_succ]; rfl)))
                    have HUE := Lib.hid (HUC.out.go (HDq.out.trans hb))
                    have HXE := Lib.hid (HXC.out.fb (HDq.out.trans hb))
                    have HTU := Lib.hid (CtW.put (P1 := P) HUE.out HG.out HLC.out HXE.out HGX.out (fun k hk => by cases hk; exact HOX.out) hr30 hc30 hm30)
                    clear hb hr30 hf30
                    (refine sch_storeR (o := ?_) (at_of hops.out ?_) ?_ 41 (.tmp 15) (.tmp 159) ?_ ?_ (.pointer (some ⟨gX, 0, none⟩)) (.agg #[.int .i64 P, .slice A30 nx.length c30]) ?_ ?_ HTU.out.1 (TS.tb (TB.setRow gX w1 _) (by simp)) ?_; rotate_left 1; (focus (simp only [List.getElem?_toArray, List.getElem?_cons_zero, List.getElem?_cons_succ]; rfl)); (focus (rw [hops.out]; rfl)); (focus rfl); (focus rfl); (focus rfl); (focus rfl))
                    repeat (refine sch_take (o := ?_) (v := ?_) (a' := ?_) (at_of hops.out ?_) ?_ (fun W hW => ?_) ?_ ?_; rotate_left 3; (focus (simp only [List.getElem?_toArray, List.getElem?_cons_zero, List.getElem?_cons_succ]; rfl)); (focus (rw [hops.out]; rfl)); (focus (go_simp; with_reducible rfl)); (focus (simp only [Act.put, List.setIfInBounds_toArray, List.set_cons_zero, List.set_cons_succ]; rfl)))
                    refine sch_done ?_
                    have HUB := Lib.hid HTU.out.2.1
                    have HXC := Lib.hid HTU.out.2.2
                    clear HTU HUE HXE HCG hops HDq K1 K2 K3 HRD8
                    generalize w1.setRow _ _ = wB at *
                    obtain ⟨A31, c31, hrw, hrd, hlc, hcm⟩ := HXC.out
                    have hst := CtW.lay HUB.out HG.out HLC.out hrd hlc hcm
                    have HUD := Lib.hid hst.2
                    have hst1 := hst.1
                    obtain ⟨q0, q1⟩ := row2 hrw
                    clear hst hrw hrd hlc hcm
                    go_wp2_with (refine wpList_store_by rfl _ _ _ rfl _ hst1 ?_)
                    go_roundw
                    case rel => exact ⟨m, by omega, rfl, by rw [← HND.out]; exact HUD.out⟩
                    case measure => simp [intOf]
      · rw [show spChk P us = 2 from by unfold spChk; rw [if_neg hok]] at hck
        have HC := Lib.hid hck
        clear hck hok
        go_wp2_with fail
        refine HC.out.mono ?_
        rintro e w2 ⟨rfl, hb⟩
        have HF2 := Lib.hid (HF1.out.trans hb)
        clear hb
        go_wp2
        go_ret
        exact ⟨rfl, HF2.out⟩
end Go.Proofs.Ytjhgnohofcahbaa
