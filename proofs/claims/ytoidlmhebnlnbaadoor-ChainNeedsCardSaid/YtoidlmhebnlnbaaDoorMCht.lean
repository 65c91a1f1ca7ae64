/- the reference of layer 5: Read. -/
import Derived.Test.YtoidlmhebnlnbaaDoorMCha
import Derived.Test.YtoidlmhebnlnbaaDoorMChb
import Derived.Test.YtoidlmhebnlnbaaDoorMChc
import Derived.Test.YtoidlmhebnlnbaaDoorMChd
import Derived.Test.YtoidlmhebnlnbaaDoorMChe
import Derived.Test.YtoidlmhebnlnbaaDoorMChf
import Derived.Test.YtoidlmhebnlnbaaDoorMChg
import Derived.Test.YtoidlmhebnlnbaaDoorMChh
import Derived.Test.YtoidlmhebnlnbaaDoorMChi
import Derived.Test.YtoidlmhebnlnbaaDoorMChj
import Derived.Test.YtoidlmhebnlnbaaDoorMChk
import Derived.Test.YtoidlmhebnlnbaaDoorMChl
import Derived.Test.YtoidlmhebnlnbaaDoorMChm
import Derived.Test.YtoidlmhebnlnbaaDoorMChn
import Derived.Test.YtoidlmhebnlnbaaDoorMCho
import Derived.Test.YtoidlmhebnlnbaaDoorMChp
import Derived.Test.YtoidlmhebnlnbaaDoorMChq
import Derived.Test.YtoidlmhebnlnbaaDoorMChr
import Derived.Test.YtoidlmhebnlnbaaDoorMChs
set_option linter.unusedVariables false
set_option linter.unusedSimpArgs false
namespace Go.Proofs.YtoidlmhebnlnbaaDoor
open Go.ChangeShapes Go.WideShapes Go.ChangeAt Go.RowKit
attribute [local go_sem] nb_nonneg nb_lt8 nb_lt64
set_option maxRecDepth 100000

/-- A reader of four bytes, as it stands in memory. -/
structure RRd (W : World) (g b c : Nat) (xs : List Byte) : Prop where
  row : W.heap[g]? = some (.cells #[.slice (some ⟨b, 0, none⟩) 4 c, .int .i64 0] 104 (0, 0))
  rd : Rd W (some ⟨b, 0, none⟩) xs
  c4 : 4 ≤ c
  cm : c ≤ maxLen
theorem RRd.fb {W W' : World} {g b c : Nat} {xs : List Byte} (h : RRd W g b c xs) (k : FB W W') : RRd W' g b c xs := ⟨(k.block _ (Array.getElem?_eq_some_iff.1 h.row).1).trans h.row, k.rd h.rd, h.c4, h.cm⟩
theorem ts_bl {g N : Nat} {w w' : World} (h : TS [g] w w') (hg : g < N) (hs : N ≤ w.heap.size) : Below g w w' :=
  ⟨h.os, h.tape, h.output, h.size, fun k hk => h.block k (by omega) (by simp; omega)⟩
set_option maxHeartbeats 8000000 in
theorem r5_Read (b : List Byte) (A : Option Addr) (c : Nat) (w : World) (hl : b.length ≤ 1000000000) (hc : b.length ≤ c) (hm : c ≤ maxLen) (hr : Rd w A b) :
    Calls Tryd.prog 18 #[.slice A b.length c] w fun e w' => PgRd (pgR b) w e w' := by
  have HF := Lib.hid ((FB.refl w).alloc (.cells #[.int .i64 0, .int .u32 0, .slice none 0 0] 45))
  have HX0 := Lib.hid (heap_alloc_new w (.cells #[.int .i64 0, .int .u32 0, .slice none 0 0] 45))
  have HGS := Lib.hid (show (w.alloc (.cells #[.int .i64 0, .int .u32 0, .slice none 0 0] 45)).heap.size = w.heap.size + 1 from by simp)
  have HR := Lib.hid hr
  obtain ⟨R, hR⟩ : ∃ R, R = pgR b := ⟨_, rfl⟩
  rw [← hR]
  unfold pgR at hR
  by_cases h1 : b.length = 4096
  · have hbe : ((b.length : Int) != 4096) = false := by simp [h1]
    obtain ⟨bb, bo, rfl, hbb, hcs⟩ := Rd.form hr (by omega)
    have hlen := h1
    have HLN := Lib.hid h1
    have HBL0 := Lib.hid hbb
    obtain ⟨y3, hy3⟩ : ∃ y3, y3 = b[3]'(by omega) := ⟨_, rfl⟩
    have hcell := hcs 3 (by omega)
    rw [← hy3] at hcell
    unfold vb at hcell
    have HKD := Lib.hid (show pgKd b = nb y3 from by unfold pgKd; rw [hy3, List.getD_eq_getElem?_getD, List.getElem?_eq_getElem (by omega)]; rfl)
    obtain ⟨nm, hnm⟩ : ∃ nm, nm = pgNm b := ⟨_, rfl⟩
    have HNM := Lib.hid hnm
    rw [HKD.out, ← hnm] at hR
    have HRR := Lib.hid hR
    have hwy : IntKind.i64.wrap (nb y3) = nb y3 := by rw [IntKind.wrap_i64]; have := nb_lt8 y3; have := nb_nonneg y3; omega
    have hcz := show (4096 : Int) ≤ (c : Int) by omega
    have hc8 := show (8 : Int) ≤ (c : Int) by omega
    have hc16 := show (16 : Int) ≤ (c : Int) by omega
    have hc4 := show (4 : Int) ≤ (c : Int) by omega
    have hcm := show (c : Int) ≤ 9223372036854775807 by unfold maxLen at hm; omega
    have hn4 : ¬ c = 4 := by omega
    have hn16 : ¬ c = 16 := by omega
    obtain ⟨wst, hwst⟩ : ∃ wst : World, wst = w.alloc (.cells #[.int .i64 0, .int .u32 0, .slice none 0 0] 45) := ⟨_, rfl⟩
    rw [← hwst] at HF HX0 HGS
    have HBB0 := Lib.hid (show bb < wst.heap.size from Nat.lt_of_lt_of_le hbb HF.out.le)
    have HDL := Lib.hid (show (b.drop 16).length = 4080 from by rw [List.length_drop, HLN.out])
    have HX4 := Lib.hid (show ((b.drop 4).take 4).length = 4 from by rw [List.length_take, List.length_drop, HLN.out]; omega)
    have HNEW := Lib.hid (rr_New ((b.drop 4).take 4) (some ⟨bb, bo + 4, none⟩) (c - 4) wst HX4.out (((HF.out.rd HR.out).drop 4).take 4))
    have HY30 := Lib.hid (HF.out.cell hcell)
    obtain ⟨wd, hwd⟩ : ∃ wd, wd = xword ((b.drop 4).take 4) := ⟨_, rfl⟩
    have HWD := Lib.hid hwd
    have hwn : IntKind.u32.wrap (nb wd) = nb nm := by rw [IntKind.wrap_u32, nb_mod32, HNM.out, HWD.out]; rfl
    have HCC := Lib.hid (And.intro hc hm)
    clear hcs hcell hy3 hnm hR hr hbb hl hwd hc hm h1
    rw [hlen] at hbe ⊢
    clear hlen
    go_enter Tryd.func18, Tryd.ntmps18
    go_wp2_with fail
    rw [← hwst]
    clear hwst
    refine HNEW.out.mono ?_
    rintro e ws ⟨g6, b6, c6, rfl, hrow, hr6, h46, hm6, hbg, hgw, hb⟩
    have HRD0 := Lib.hid (show RRd ws g6 b6 c6 ((b.drop 4).take 4) from ⟨hrow, hr6, h46, hm6⟩)
    have HWRD := Lib.hid (fun W (h : RRd W g6 b6 c6 ((b.drop 4).take 4)) => show Calls Tryd.prog 39 #[.pointer (some ⟨g6, 0, none⟩), .int .i64 4] W fun e w' => e = .returned (.int .u64 (nb wd)) ∧ TS [g6] W w' from by
      have q := rr_Word ((b.drop 4).take 4) g6 b6 c6 W HX4.out h.row h.rd h.c4 h.cm
      rw [← HWD.out] at q
      exact q)
    have HGL := Lib.hid (show g6 < ws.heap.size from (Array.getElem?_eq_some_iff.1 hrow).1)
    have HBB := Lib.hid (show bb < g6 from Nat.lt_of_lt_of_le HBB0.out hgw)
    have HGW := Lib.hid (show w.heap.size < g6 from Nat.lt_of_lt_of_le (by have := HGS.out; omega) hgw)
    have HFS := Lib.hid (HF.out.trans hb)
    have HXS := Lib.hid ((hb.block _ (Array.getElem?_eq_some_iff.1 HX0.out).1).trans HX0.out)
    have HY3 := Lib.hid (hb.cell HY30.out)
    have HDR := Lib.hid (show ∀ W, TS [g6] ws W → Rd W (some ⟨bb, bo + 16, none⟩) (b.drop 16) from fun W h => (h.rd (HFS.out.rd HR.out) (fun ad ha hm => by cases ha; have := HBB.out; simp at hm; omega)).drop 16)
    clear hrow hr6 h46 hm6 hbg hgw hb HNEW HY30 HBB0
    generalize hws : ws = wst' at *
    clear hws
    go_upto_region 4 with fail
    go_cut [5] from 15 to 26 (fun s4 wc => ∃ gP A' c', s4 = .pointer (some ⟨gP, 0, none⟩) ∧ Hid (wc.heap[gP]? = some (.cells #[.int .i64 (nb y3), .int .u32 (nb nm), .slice A' 4080 c'] 45 (0, 0))) ∧ Hid (Rd wc A' (b.drop 16)) ∧ Hid (4080 ≤ c') ∧ Hid (c' ≤ maxLen) ∧ Hid (TS [g6] wst' wc))
    case first =>
      obtain ⟨W0, hW0⟩ : ∃ W0 : World, W0 = wst' := ⟨_, rfl⟩
      rw [← hW0]
      refine region_schB (E := Below g6) ([]) ([(0, true), (1, true), (2, true), (3, true), (4, true), (8, true), (9, true)]) (.three [(5, false), (6, true)] (.two [(7, false)] (.two [(10, false), (11, true), (12, false), (13, false)] .leaf [(12, false), (10, false), (11, true), (13, false)] .leaf) [(12, false), (7, false), (10, false), (11, true), (13, false)] .leaf) [(7, false)] (.two [(5, false), (6, true)] (.two [(10, false), (11, true), (12, false), (13, false)] .leaf [(12, false), (10, false), (11, true), (13, false)] .leaf) [(12, false), (5, false), (6, true), (10, false), (11, true), (13, false)] .leaf) [(12, false)] (.two [(5, false), (6, true), (7, false), (10, false), (11, true), (13, false)] .leaf [(7, false), (5, false), (6, true), (10, false), (11, true), (13, false)] .leaf)) ([]) (by kernel_rfl) (Below.refl _) (fun _ _ _ h k => Below.trans h k) (fun _ _ d _ _ h => by cases d <;> exact h) (by kernel_rfl) ?_
      intro ops hops0
      have hops := Lib.hid hops0
      clear hops0
      have HD : FB W0 W0.drew := (FB.refl _).drew
      generalize W0.drew = wF0 at *
      rw [hW0] at HD
      have HFB := Lib.hid (show TS [g6] wst' wF0 from TS.of HD)
      have HRD := Lib.hid (HRD0.out.fb HD)
      clear hW0
      have K1 := Lib.hid (FB.cell HD HY3.out)
      clear HD
      refine sch_done ?_
      refine schB_pre ?_
      have HBL := Lib.hid (show bb < g6 from HBB.out)
      repeat (refine sch_take (o := ?_) (v := ?_) (a' := ?_) (at_of hops.out ?_) ?_ (fun W hW => ?_) ?_ ?_; rotate_left 3; (focus (simp only [List.getElem?_toArray, List.getElem?_cons_zero, List.getElem?_cons_succ]; rfl)); (focus (rw [hops.out]; rfl)); (focus (have u1 := bl_cell hW K1.out HBL.out; go_simp; with_reducible rfl)); (focus (simp only [Act.put, List.setIfInBounds_toArray, List.set_cons_zero, List.set_cons_succ]; rfl)))
      clear K1
      refine sch_done ?_
      refine schB_three ?_ ?_ ?_
      · skip
        have HWC := Lib.hid (HWRD.out _ HRD.out)
        (refine sch_call (o := ?_) (f := ?_) (args := ?_) (at_of hops.out ?_) ?_ ?_ ?_; rotate_left 3; (focus (simp only [List.getElem?_toArray, List.getElem?_cons_zero, List.getElem?_cons_succ]; rfl)); (focus (rw [hops.out]; rfl)); (focus (go_simp; constructor <;> with_reducible rfl)); (first | ((with_reducible refine (HWC.out).mono ?_); rintro e x1 ⟨rfl, hts⟩; refine ⟨_, rfl, (ts_bl hts HGL.out HFB.out.size), ?_⟩; intro a' ha'; simp only [Act.put, List.setIfInBounds_toArray, List.set_cons_zero, List.set_cons_succ] at ha'; subst ha')))
        replace HFB := Lib.hid (HFB.out.then hts)
        clear hts HRD HWC
        repeat (refine sch_take (o := ?_) (v := ?_) (a' := ?_) (at_of hops.out ?_) ?_ (fun W hW => ?_) ?_ ?_; rotate_left 3; (focus (simp only [List.getElem?_toArray, List.getElem?_cons_zero, List.getElem?_cons_succ]; rfl)); (focus (rw [hops.out]; rfl)); (focus (go_simp; with_reducible rfl)); (focus (simp only [Act.put, List.setIfInBounds_toArray, List.set_cons_zero, List.set_cons_succ]; rfl)))
        refine sch_done ?_
        refine schB_two ?_ ?_
        · skip
          (refine sch_run (o := ?_) (v := ?_) (a' := ?_) (w' := ?_) (at_of hops.out ?_) ?_ ?_ ?_ ?_ ?_; rotate_left 4; (focus (simp only [List.getElem?_toArray, List.getElem?_cons_zero, List.getElem?_cons_succ]; rfl)); (focus (rw [hops.out]; rfl)); (focus (go_simp; constructor <;> with_reducible rfl)); (focus (exact Below.alloc (Below.refl _ _) (Nat.le_trans (Nat.le_of_lt HGL.out) HFB.out.size) _)); (focus (simp only [Act.put, List.setIfInBounds_toArray, List.set_cons_zero, List.set_cons_succ]; rfl)))
          have HOW := Lib.hid (show Own (x1.alloc (.cells #[] 5)) x1.heap.size (.slice (some ⟨x1.heap.size, 0, none⟩) 0 0) [] from OwnV.lit _ x1 [] (by simp))
          have HGE := Lib.hid (show wst'.heap.size ≤ x1.heap.size from HFB.out.size)
          replace HFB := Lib.hid (HFB.out.then (TS.of ((FB.refl x1).alloc (.cells #[] 5))))
          generalize x1.alloc _ = x2 at *
          generalize x1.heap.size = gE at *
          repeat (refine sch_take (o := ?_) (v := ?_) (a' := ?_) (at_of hops.out ?_) ?_ (fun W hW => ?_) ?_ ?_; rotate_left 3; (focus (simp only [List.getElem?_toArray, List.getElem?_cons_zero, List.getElem?_cons_succ]; rfl)); (focus (rw [hops.out]; rfl)); (focus (go_simp; with_reducible rfl)); (focus (simp only [Act.put, List.setIfInBounds_toArray, List.set_cons_zero, List.set_cons_succ]; rfl)))
          refine sch_done ?_
          refine schB_two ?_ ?_
          · skip
            (refine sch_append_bytes (o := ?_) (at_of hops.out ?_) ?_ (.tmp 22) (.tmp 24) ?_ gE _ [] HOW.out ?_ (some ⟨bb, bo + 16, none⟩) 4080 (c - 16) (b.drop 16) HDL.out.symm ?_ (HDR.out _ HFB.out) (by rw [HDL.out]; simp) (by have h1 := (OwnV.base HOW.out gE rfl).2; omega) ?_; rotate_left 1; (focus (simp only [List.getElem?_toArray, List.getElem?_cons_zero, List.getElem?_cons_succ]; rfl)); (focus (rw [hops.out]; rfl)); (focus rfl); (focus rfl); (focus rfl))
            intro v' x3 ho hgr hob
            rw [List.nil_append] at ho
            have hlo : ∀ k, (Value.slice (some ⟨gE, 0, none⟩) 0 0).ownBlock = some k → g6 ≤ k := fun k hk => by cases hk; exact Nat.le_trans (Nat.le_of_lt HGL.out) HGE.out
            refine ⟨Below.grown (Below.refl _ _) hgr (Nat.le_trans (Nat.le_of_lt HGL.out) HFB.out.size) hlo, ?_⟩
            intro a' ha'; simp only [Act.put, List.setIfInBounds_toArray, List.set_cons_zero, List.set_cons_succ] at ha'; subst ha'
            obtain ⟨A', c', rfl, h1, h2, h3, h4⟩ := Own.form ho
            rw [HDL.out] at ho h1 hob ⊢
            have HOV := Lib.hid (And.intro h3 (And.intro h1 h2))
            have HAL := Lib.hid (fun ad (ha : A' = some ad) => (h4 ad ha).2)
            replace HFB := Lib.hid (HFB.out.trans (ts_grownC (g := g6) hgr) (fun y hy => by
              rcases List.mem_cons.1 hy with e | e
              · exact .inl (by rw [e]; simp)
              · rw [Option.mem_toList] at e; cases e; exact .inr HGE.out))
            clear ho hgr hob hlo h1 h2 h3 h4 HOW
            repeat (refine sch_take (o := ?_) (v := ?_) (a' := ?_) (at_of hops.out ?_) ?_ (fun W hW => ?_) ?_ ?_; rotate_left 3; (focus (simp only [List.getElem?_toArray, List.getElem?_cons_zero, List.getElem?_cons_succ]; rfl)); (focus (rw [hops.out]; rfl)); (focus (go_simp; with_reducible rfl)); (focus (simp only [Act.put, List.setIfInBounds_toArray, List.set_cons_zero, List.set_cons_succ]; rfl)))
            (refine sch_run (o := ?_) (v := ?_) (a' := ?_) (w' := ?_) (at_of hops.out ?_) ?_ ?_ ?_ ?_ ?_; rotate_left 4; (focus (simp only [List.getElem?_toArray, List.getElem?_cons_zero, List.getElem?_cons_succ]; rfl)); (focus (rw [hops.out]; rfl)); (focus (go_simp; constructor <;> with_reducible rfl)); (focus (exact Below.alloc (Below.refl _ _) (Nat.le_trans (Nat.le_of_lt HGL.out) HFB.out.size) _)); (focus (simp only [Act.put, List.setIfInBounds_toArray, List.set_cons_zero, List.set_cons_succ]; rfl)))
            have HROW := Lib.hid (heap_alloc_new x3 (.cells #[.int .i64 0, .int .u32 0, .slice none 0 0] 45))
            have HGP := Lib.hid (show wst'.heap.size ≤ x3.heap.size from HFB.out.size)
            have HVP := Lib.hid (fun ad (ha : A' = some ad) => show ad.block ≠ x3.heap.size from Nat.ne_of_lt (HAL.out ad ha))
            replace HOV := Lib.hid (And.intro (FB.rd ((FB.refl x3).alloc (.cells #[.int .i64 0, .int .u32 0, .slice none 0 0] 45)) HOV.out.1) HOV.out.2)
            clear HAL
            replace HFB := Lib.hid (HFB.out.then (TS.of ((FB.refl x3).alloc (.cells #[.int .i64 0, .int .u32 0, .slice none 0 0] 45))))
            generalize x3.alloc _ = x4 at *
            generalize x3.heap.size = gP at *
            repeat (refine sch_take (o := ?_) (v := ?_) (a' := ?_) (at_of hops.out ?_) ?_ (fun W hW => ?_) ?_ ?_; rotate_left 3; (focus (simp only [List.getElem?_toArray, List.getElem?_cons_zero, List.getElem?_cons_succ]; rfl)); (focus (rw [hops.out]; rfl)); (focus (go_simp; with_reducible rfl)); (focus (simp only [Act.put, List.setIfInBounds_toArray, List.set_cons_zero, List.set_cons_succ]; rfl)))
            have hst := pg_store (.int .i64 (nb y3)) (.int .u32 (nb nm)) (.slice A' 4080 c') HROW.out (by simp [Value.oneCell'])
            (refine sch_storeR (o := ?_) (at_of hops.out ?_) ?_ 45 (.tmp 5) (.tmp 26) ?_ ?_ (.pointer (some ⟨gP, 0, none⟩)) (.agg #[.int .i64 (nb y3), .int .u32 (nb nm), .slice A' 4080 c']) ?_ ?_ hst (below_setRow (Below.refl _ _) (Nat.le_trans (Nat.le_of_lt HGL.out) HGP.out) _) ?_; rotate_left 1; (focus (simp only [List.getElem?_toArray, List.getElem?_cons_zero, List.getElem?_cons_succ]; rfl)); (focus (rw [hops.out]; rfl)); (focus rfl); (focus rfl); (focus rfl); (focus rfl))
            refine sch_done ?_
            refine schB_leaf ?_
            refine sch_done ?_
            have hts := TS.tb (F := [gP]) (TB.setRow gP x4 #[.int .i64 (nb y3), .int .u32 (nb nm), .slice A' 4080 c']) (by simp)
            have HE1 := Lib.hid (setRow_heap x4 gP _ #[.int .i64 (nb y3), .int .u32 (nb nm), .slice A' 4080 c'] _ _ HROW.out)
            have HE2 := Lib.hid (hts.rd HOV.out.1 (fun ad ha hm => by simp at hm; exact HVP.out ad ha hm))
            have HE3 := Lib.hid (HFB.out.trans hts (fun y hy => .inr (by have := HGP.out; simp at hy; omega)))
            clear hst hts hops
            go_wp2_with fail
            go_meet
            case rel => exact ⟨gP, A', c', rfl, HE1.out, HE2.out, HOV.out.2.1, HOV.out.2.2, HE3.out⟩
          · skip
            (refine sch_run (o := ?_) (v := ?_) (a' := ?_) (w' := ?_) (at_of hops.out ?_) ?_ ?_ ?_ ?_ ?_; rotate_left 4; (focus (simp only [List.getElem?_toArray, List.getElem?_cons_zero, List.getElem?_cons_succ]; rfl)); (focus (rw [hops.out]; rfl)); (focus (go_simp; constructor <;> with_reducible rfl)); (focus (exact Below.alloc (Below.refl _ _) (Nat.le_trans (Nat.le_of_lt HGL.out) HFB.out.size) _)); (focus (simp only [Act.put, List.setIfInBounds_toArray, List.set_cons_zero, List.set_cons_succ]; rfl)))
            have HROW := Lib.hid (heap_alloc_new x2 (.cells #[.int .i64 0, .int .u32 0, .slice none 0 0] 45))
            have HGP := Lib.hid (show wst'.heap.size ≤ x2.heap.size from HFB.out.size)
            have HPE := Lib.hid (show x2.heap.size ≠ gE from by have h1 := (OwnV.base HOW.out gE rfl).2; omega)
            replace HOW := Lib.hid (FB.own ((FB.refl x2).alloc (.cells #[.int .i64 0, .int .u32 0, .slice none 0 0] 45)) HOW.out)
            replace HFB := Lib.hid (HFB.out.then (TS.of ((FB.refl x2).alloc (.cells #[.int .i64 0, .int .u32 0, .slice none 0 0] 45))))
            generalize x2.alloc _ = x5 at *
            generalize x2.heap.size = gP at *
            repeat (refine sch_take (o := ?_) (v := ?_) (a' := ?_) (at_of hops.out ?_) ?_ (fun W hW => ?_) ?_ ?_; rotate_left 3; (focus (simp only [List.getElem?_toArray, List.getElem?_cons_zero, List.getElem?_cons_succ]; rfl)); (focus (rw [hops.out]; rfl)); (focus (go_simp; with_reducible rfl)); (focus (simp only [Act.put, List.setIfInBounds_toArray, List.set_cons_zero, List.set_cons_succ]; rfl)))
            (refine sch_append_bytes (o := ?_) (at_of hops.out ?_) ?_ (.tmp 22) (.tmp 24) ?_ gE _ [] HOW.out ?_ (some ⟨bb, bo + 16, none⟩) 4080 (c - 16) (b.drop 16) HDL.out.symm ?_ (HDR.out _ HFB.out) (by rw [HDL.out]; simp) (by have h1 := (OwnV.base HOW.out gE rfl).2; omega) ?_; rotate_left 1; (focus (simp only [List.getElem?_toArray, List.getElem?_cons_zero, List.getElem?_cons_succ]; rfl)); (focus (rw [hops.out]; rfl)); (focus rfl); (focus rfl); (focus rfl))
            intro v' x6 ho hgr hob
            rw [List.nil_append] at ho
            have hlo : ∀ k, (Value.slice (some ⟨gE, 0, none⟩) 0 0).ownBlock = some k → g6 ≤ k := fun k hk => by cases hk; exact Nat.le_trans (Nat.le_of_lt HGL.out) HGE.out
            refine ⟨Below.grown (Below.refl _ _) hgr (Nat.le_trans (Nat.le_of_lt HGL.out) HFB.out.size) hlo, ?_⟩
            intro a' ha'; simp only [Act.put, List.setIfInBounds_toArray, List.set_cons_zero, List.set_cons_succ] at ha'; subst ha'
            obtain ⟨A', c', rfl, h1, h2, h3, h4⟩ := Own.form ho
            rw [HDL.out] at ho h1 hob ⊢
            have HVP := Lib.hid (fun ad (ha : A' = some ad) => show ad.block ≠ gP from by
              subst ha
              have h5 := (Array.getElem?_eq_some_iff.1 HROW.out).1
              rcases hob with e | e <;> simp [Value.ownBlock] at e <;> have := HPE.out <;> omega)
            replace HROW := Lib.hid ((hgr.block _ (Array.getElem?_eq_some_iff.1 HROW.out).1 (fun e => by cases e; exact HPE.out rfl)).trans HROW.out)
            have HOV := Lib.hid (And.intro h3 (And.intro h1 h2))
            have HAL := Lib.hid (fun ad (ha : A' = some ad) => (h4 ad ha).2)
            replace HFB := Lib.hid (HFB.out.trans (ts_grownC (g := g6) hgr) (fun y hy => by
              rcases List.mem_cons.1 hy with e | e
              · exact .inl (by rw [e]; simp)
              · rw [Option.mem_toList] at e; cases e; exact .inr HGE.out))
            clear ho hgr hob hlo h1 h2 h3 h4 HOW
            repeat (refine sch_take (o := ?_) (v := ?_) (a' := ?_) (at_of hops.out ?_) ?_ (fun W hW => ?_) ?_ ?_; rotate_left 3; (focus (simp only [List.getElem?_toArray, List.getElem?_cons_zero, List.getElem?_cons_succ]; rfl)); (focus (rw [hops.out]; rfl)); (focus (go_simp; with_reducible rfl)); (focus (simp only [Act.put, List.setIfInBounds_toArray, List.set_cons_zero, List.set_cons_succ]; rfl)))
            have hst := pg_store (.int .i64 (nb y3)) (.int .u32 (nb nm)) (.slice A' 4080 c') HROW.out (by simp [Value.oneCell'])
            (refine sch_storeR (o := ?_) (at_of hops.out ?_) ?_ 45 (.tmp 5) (.tmp 26) ?_ ?_ (.pointer (some ⟨gP, 0, none⟩)) (.agg #[.int .i64 (nb y3), .int .u32 (nb nm), .slice A' 4080 c']) ?_ ?_ hst (below_setRow (Below.refl _ _) (Nat.le_trans (Nat.le_of_lt HGL.out) HGP.out) _) ?_; rotate_left 1; (focus (simp only [List.getElem?_toArray, List.getElem?_cons_zero, List.getElem?_cons_succ]; rfl)); (focus (rw [hops.out]; rfl)); (focus rfl); (focus rfl); (focus rfl); (focus rfl))
            refine sch_done ?_
            refine schB_leaf ?_
            refine sch_done ?_
            have hts := TS.tb (F := [gP]) (TB.setRow gP x6 #[.int .i64 (nb y3), .int .u32 (nb nm), .slice A' 4080 c']) (by simp)
            have HE1 := Lib.hid (setRow_heap x6 gP _ #[.int .i64 (nb y3), .int .u32 (nb nm), .slice A' 4080 c'] _ _ HROW.out)
            have HE2 := Lib.hid (hts.rd HOV.out.1 (fun ad ha hm => by simp at hm; exact HVP.out ad ha hm))
            have HE3 := Lib.hid (HFB.out.trans hts (fun y hy => .inr (by have := HGP.out; simp at hy; omega)))
            clear hst hts hops
            go_wp2_with fail
            go_meet
            case rel => exact ⟨gP, A', c', rfl, HE1.out, HE2.out, HOV.out.2.1, HOV.out.2.2, HE3.out⟩
        · skip
          (refine sch_run (o := ?_) (v := ?_) (a' := ?_) (w' := ?_) (at_of hops.out ?_) ?_ ?_ ?_ ?_ ?_; rotate_left 4; (focus (simp only [List.getElem?_toArray, List.getElem?_cons_zero, List.getElem?_cons_succ]; rfl)); (focus (rw [hops.out]; rfl)); (focus (go_simp; constructor <;> with_reducible rfl)); (focus (exact Below.alloc (Below.refl _ _) (Nat.le_trans (Nat.le_of_lt HGL.out) HFB.out.size) _)); (focus (simp only [Act.put, List.setIfInBounds_toArray, List.set_cons_zero, List.set_cons_succ]; rfl)))
          have HROW := Lib.hid (heap_alloc_new x1 (.cells #[.int .i64 0, .int .u32 0, .slice none 0 0] 45))
          have HGP := Lib.hid (show wst'.heap.size ≤ x1.heap.size from HFB.out.size)
          replace HFB := Lib.hid (HFB.out.then (TS.of ((FB.refl x1).alloc (.cells #[.int .i64 0, .int .u32 0, .slice none 0 0] 45))))
          generalize x1.alloc _ = x7 at *
          generalize x1.heap.size = gP at *
          repeat (refine sch_take (o := ?_) (v := ?_) (a' := ?_) (at_of hops.out ?_) ?_ (fun W hW => ?_) ?_ ?_; rotate_left 3; (focus (simp only [List.getElem?_toArray, List.getElem?_cons_zero, List.getElem?_cons_succ]; rfl)); (focus (rw [hops.out]; rfl)); (focus (go_simp; with_reducible rfl)); (focus (simp only [Act.put, List.setIfInBounds_toArray, List.set_cons_zero, List.set_cons_succ]; rfl)))
          (refine sch_run (o := ?_) (v := ?_) (a' := ?_) (w' := ?_) (at_of hops.out ?_) ?_ ?_ ?_ ?_ ?_; rotate_left 4; (focus (simp only [List.getElem?_toArray, List.getElem?_cons_zero, List.getElem?_cons_succ]; rfl)); (focus (rw [hops.out]; rfl)); (focus (go_simp; constructor <;> with_reducible rfl)); (focus (exact Below.alloc (Below.refl _ _) (Nat.le_trans (Nat.le_of_lt HGL.out) HFB.out.size) _)); (focus (simp only [Act.put, List.setIfInBounds_toArray, List.set_cons_zero, List.set_cons_succ]; rfl)))
          have HOW := Lib.hid (show Own (x7.alloc (.cells #[] 5)) x7.heap.size (.slice (some ⟨x7.heap.size, 0, none⟩) 0 0) [] from OwnV.lit _ x7 [] (by simp))
          have HGE := Lib.hid (show wst'.heap.size ≤ x7.heap.size from HFB.out.size)
          have HPE := Lib.hid (show gP ≠ x7.heap.size from by have h1 := (Array.getElem?_eq_some_iff.1 HROW.out).1; omega)
          replace HROW := Lib.hid ((((FB.refl x7).alloc (.cells #[] 5)).block _ (Array.getElem?_eq_some_iff.1 HROW.out).1).trans HROW.out)
          replace HFB := Lib.hid (HFB.out.then (TS.of ((FB.refl x7).alloc (.cells #[] 5))))
          generalize x7.alloc _ = x8 at *
          generalize x7.heap.size = gE at *
          repeat (refine sch_take (o := ?_) (v := ?_) (a' := ?_) (at_of hops.out ?_) ?_ (fun W hW => ?_) ?_ ?_; rotate_left 3; (focus (simp only [List.getElem?_toArray, List.getElem?_cons_zero, List.getElem?_cons_succ]; rfl)); (focus (rw [hops.out]; rfl)); (focus (go_simp; with_reducible rfl)); (focus (simp only [Act.put, List.setIfInBounds_toArray, List.set_cons_zero, List.set_cons_succ]; rfl)))
          (refine sch_append_bytes (o := ?_) (at_of hops.out ?_) ?_ (.tmp 22) (.tmp 24) ?_ gE _ [] HOW.out ?_ (some ⟨bb, bo + 16, none⟩) 4080 (c - 16) (b.drop 16) HDL.out.symm ?_ (HDR.out _ HFB.out) (by rw [HDL.out]; simp) (by have h1 := (OwnV.base HOW.out gE rfl).2; omega) ?_; rotate_left 1; (focus (simp only [List.getElem?_toArray, List.getElem?_cons_zero, List.getElem?_cons_succ]; rfl)); (focus (rw [hops.out]; rfl)); (focus rfl); (focus rfl); (focus rfl))
          intro v' x9 ho hgr hob
          rw [List.nil_append] at ho
          have hlo : ∀ k, (Value.slice (some ⟨gE, 0, none⟩) 0 0).ownBlock = some k → g6 ≤ k := fun k hk => by cases hk; exact Nat.le_trans (Nat.le_of_lt HGL.out) HGE.out
          refine ⟨Below.grown (Below.refl _ _) hgr (Nat.le_trans (Nat.le_of_lt HGL.out) HFB.out.size) hlo, ?_⟩
          intro a' ha'; simp only [Act.put, List.setIfInBounds_toArray, List.set_cons_zero, List.set_cons_succ] at ha'; subst ha'
          obtain ⟨A', c', rfl, h1, h2, h3, h4⟩ := Own.form ho
          rw [HDL.out] at ho h1 hob ⊢
          have HVP := Lib.hid (fun ad (ha : A' = some ad) => show ad.block ≠ gP from by
            subst ha
            have h5 := (Array.getElem?_eq_some_iff.1 HROW.out).1
            rcases hob with e | e <;> simp [Value.ownBlock] at e <;> have := HPE.out <;> omega)
          replace HROW := Lib.hid ((hgr.block _ (Array.getElem?_eq_some_iff.1 HROW.out).1 (fun e => by cases e; exact HPE.out rfl)).trans HROW.out)
          have HOV := Lib.hid (And.intro h3 (And.intro h1 h2))
          have HAL := Lib.hid (fun ad (ha : A' = some ad) => (h4 ad ha).2)
          replace HFB := Lib.hid (HFB.out.trans (ts_grownC (g := g6) hgr) (fun y hy => by
            rcases List.mem_cons.1 hy with e | e
            · exact .inl (by rw [e]; simp)
            · rw [Option.mem_toList] at e; cases e; exact .inr HGE.out))
          clear ho hgr hob hlo h1 h2 h3 h4 HOW
          repeat (refine sch_take (o := ?_) (v := ?_) (a' := ?_) (at_of hops.out ?_) ?_ (fun W hW => ?_) ?_ ?_; rotate_left 3; (focus (simp only [List.getElem?_toArray, List.getElem?_cons_zero, List.getElem?_cons_succ]; rfl)); (focus (rw [hops.out]; rfl)); (focus (go_simp; with_reducible rfl)); (focus (simp only [Act.put, List.setIfInBounds_toArray, List.set_cons_zero, List.set_cons_succ]; rfl)))
          have hst := pg_store (.int .i64 (nb y3)) (.int .u32 (nb nm)) (.slice A' 4080 c') HROW.out (by simp [Value.oneCell'])
          (refine sch_storeR (o := ?_) (at_of hops.out ?_) ?_ 45 (.tmp 5) (.tmp 26) ?_ ?_ (.pointer (some ⟨gP, 0, none⟩)) (.agg #[.int .i64 (nb y3), .int .u32 (nb nm), .slice A' 4080 c']) ?_ ?_ hst (below_setRow (Below.refl _ _) (Nat.le_trans (Nat.le_of_lt HGL.out) HGP.out) _) ?_; rotate_left 1; (focus (simp only [List.getElem?_toArray, List.getElem?_cons_zero, List.getElem?_cons_succ]; rfl)); (focus (rw [hops.out]; rfl)); (focus rfl); (focus rfl); (focus rfl); (focus rfl))
          refine sch_done ?_
          refine schB_leaf ?_
          refine sch_done ?_
          have hts := TS.tb (F := [gP]) (TB.setRow gP x9 #[.int .i64 (nb y3), .int .u32 (nb nm), .slice A' 4080 c']) (by simp)
          have HE1 := Lib.hid (setRow_heap x9 gP _ #[.int .i64 (nb y3), .int .u32 (nb nm), .slice A' 4080 c'] _ _ HROW.out)
          have HE2 := Lib.hid (hts.rd HOV.out.1 (fun ad ha hm => by simp at hm; exact HVP.out ad ha hm))
          have HE3 := Lib.hid (HFB.out.trans hts (fun y hy => .inr (by have := HGP.out; simp at hy; omega)))
          clear hst hts hops
          go_wp2_with fail
          go_meet
          case rel => exact ⟨gP, A', c', rfl, HE1.out, HE2.out, HOV.out.2.1, HOV.out.2.2, HE3.out⟩
      · skip
        (refine sch_run (o := ?_) (v := ?_) (a' := ?_) (w' := ?_) (at_of hops.out ?_) ?_ ?_ ?_ ?_ ?_; rotate_left 4; (focus (simp only [List.getElem?_toArray, List.getElem?_cons_zero, List.getElem?_cons_succ]; rfl)); (focus (rw [hops.out]; rfl)); (focus (go_simp; constructor <;> with_reducible rfl)); (focus (exact Below.alloc (Below.refl _ _) (Nat.le_trans (Nat.le_of_lt HGL.out) HFB.out.size) _)); (focus (simp only [Act.put, List.setIfInBounds_toArray, List.set_cons_zero, List.set_cons_succ]; rfl)))
        have HOW := Lib.hid (show Own (wF0.alloc (.cells #[] 5)) wF0.heap.size (.slice (some ⟨wF0.heap.size, 0, none⟩) 0 0) [] from OwnV.lit _ wF0 [] (by simp))
        have HGE := Lib.hid (show wst'.heap.size ≤ wF0.heap.size from HFB.out.size)
        replace HRD := Lib.hid (HRD.out.fb ((FB.refl wF0).alloc (.cells #[] 5)))
        replace HFB := Lib.hid (HFB.out.then (TS.of ((FB.refl wF0).alloc (.cells #[] 5))))
        generalize wF0.alloc _ = x10 at *
        generalize wF0.heap.size = gE at *
        repeat (refine sch_take (o := ?_) (v := ?_) (a' := ?_) (at_of hops.out ?_) ?_ (fun W hW => ?_) ?_ ?_; rotate_left 3; (focus (simp only [List.getElem?_toArray, List.getElem?_cons_zero, List.getElem?_cons_succ]; rfl)); (focus (rw [hops.out]; rfl)); (focus (go_simp; with_reducible rfl)); (focus (simp only [Act.put, List.setIfInBounds_toArray, List.set_cons_zero, List.set_cons_succ]; rfl)))
        refine sch_done ?_
        refine schB_two ?_ ?_
        · skip
          have HWC := Lib.hid (HWRD.out _ HRD.out)
          (refine sch_call (o := ?_) (f := ?_) (args := ?_) (at_of hops.out ?_) ?_ ?_ ?_; rotate_left 3; (focus (simp only [List.getElem?_toArray, List.getElem?_cons_zero, List.getElem?_cons_succ]; rfl)); (focus (rw [hops.out]; rfl)); (focus (go_simp; constructor <;> with_reducible rfl)); (first | ((with_reducible refine (HWC.out).mono ?_); rintro e x11 ⟨rfl, hts⟩; refine ⟨_, rfl, (ts_bl hts HGL.out HFB.out.size), ?_⟩; intro a' ha'; simp only [Act.put, List.setIfInBounds_toArray, List.set_cons_zero, List.set_cons_succ] at ha'; subst ha')))
          replace HOW := Lib.hid (hts.ownV HOW.out (fun k hk hm => by cases hk; simp at hm; have h1 := HGE.out; have h2 := HGL.out; omega))
          replace HFB := Lib.hid (HFB.out.then hts)
          clear hts HRD HWC
          repeat (refine sch_take (o := ?_) (v := ?_) (a' := ?_) (at_of hops.out ?_) ?_ (fun W hW => ?_) ?_ ?_; rotate_left 3; (focus (simp only [List.getElem?_toArray, List.getElem?_cons_zero, List.getElem?_cons_succ]; rfl)); (focus (rw [hops.out]; rfl)); (focus (go_simp; with_reducible rfl)); (focus (simp only [Act.put, List.setIfInBounds_toArray, List.set_cons_zero, List.set_cons_succ]; rfl)))
          refine sch_done ?_
          refine schB_two ?_ ?_
          · skip
            (refine sch_append_bytes (o := ?_) (at_of hops.out ?_) ?_ (.tmp 22) (.tmp 24) ?_ gE _ [] HOW.out ?_ (some ⟨bb, bo + 16, none⟩) 4080 (c - 16) (b.drop 16) HDL.out.symm ?_ (HDR.out _ HFB.out) (by rw [HDL.out]; simp) (by have h1 := (OwnV.base HOW.out gE rfl).2; omega) ?_; rotate_left 1; (focus (simp only [List.getElem?_toArray, List.getElem?_cons_zero, List.getElem?_cons_succ]; rfl)); (focus (rw [hops.out]; rfl)); (focus rfl); (focus rfl); (focus rfl))
            intro v' x12 ho hgr hob
            rw [List.nil_append] at ho
            have hlo : ∀ k, (Value.slice (some ⟨gE, 0, none⟩) 0 0).ownBlock = some k → g6 ≤ k := fun k hk => by cases hk; exact Nat.le_trans (Nat.le_of_lt HGL.out) HGE.out
            refine ⟨Below.grown (Below.refl _ _) hgr (Nat.le_trans (Nat.le_of_lt HGL.out) HFB.out.size) hlo, ?_⟩
            intro a' ha'; simp only [Act.put, List.setIfInBounds_toArray, List.set_cons_zero, List.set_cons_succ] at ha'; subst ha'
            obtain ⟨A', c', rfl, h1, h2, h3, h4⟩ := Own.form ho
            rw [HDL.out] at ho h1 hob ⊢
            have HOV := Lib.hid (And.intro h3 (And.intro h1 h2))
            have HAL := Lib.hid (fun ad (ha : A' = some ad) => (h4 ad ha).2)
            replace HFB := Lib.hid (HFB.out.trans (ts_grownC (g := g6) hgr) (fun y hy => by
              rcases List.mem_cons.1 hy with e | e
              · exact .inl (by rw [e]; simp)
              · rw [Option.mem_toList] at e; cases e; exact .inr HGE.out))
            clear ho hgr hob hlo h1 h2 h3 h4 HOW
            repeat (refine sch_take (o := ?_) (v := ?_) (a' := ?_) (at_of hops.out ?_) ?_ (fun W hW => ?_) ?_ ?_; rotate_left 3; (focus (simp only [List.getElem?_toArray, List.getElem?_cons_zero, List.getElem?_cons_succ]; rfl)); (focus (rw [hops.out]; rfl)); (focus (go_simp; with_reducible rfl)); (focus (simp only [Act.put, List.setIfInBounds_toArray, List.set_cons_zero, List.set_cons_succ]; rfl)))
            (refine sch_run (o := ?_) (v := ?_) (a' := ?_) (w' := ?_) (at_of hops.out ?_) ?_ ?_ ?_ ?_ ?_; rotate_left 4; (focus (simp only [List.getElem?_toArray, List.getElem?_cons_zero, List.getElem?_cons_succ]; rfl)); (focus (rw [hops.out]; rfl)); (focus (go_simp; constructor <;> with_reducible rfl)); (focus (exact Below.alloc (Below.refl _ _) (Nat.le_trans (Nat.le_of_lt HGL.out) HFB.out.size) _)); (focus (simp only [Act.put, List.setIfInBounds_toArray, List.set_cons_zero, List.set_cons_succ]; rfl)))
            have HROW := Lib.hid (heap_alloc_new x12 (.cells #[.int .i64 0, .int .u32 0, .slice none 0 0] 45))
            have HGP := Lib.hid (show wst'.heap.size ≤ x12.heap.size from HFB.out.size)
            have HVP := Lib.hid (fun ad (ha : A' = some ad) => show ad.block ≠ x12.heap.size from Nat.ne_of_lt (HAL.out ad ha))
            replace HOV := Lib.hid (And.intro (FB.rd ((FB.refl x12).alloc (.cells #[.int .i64 0, .int .u32 0, .slice none 0 0] 45)) HOV.out.1) HOV.out.2)
            clear HAL
            replace HFB := Lib.hid (HFB.out.then (TS.of ((FB.refl x12).alloc (.cells #[.int .i64 0, .int .u32 0, .slice none 0 0] 45))))
            generalize x12.alloc _ = x13 at *
            generalize x12.heap.size = gP at *
            repeat (refine sch_take (o := ?_) (v := ?_) (a' := ?_) (at_of hops.out ?_) ?_ (fun W hW => ?_) ?_ ?_; rotate_left 3; (focus (simp only [List.getElem?_toArray, List.getElem?_cons_zero, List.getElem?_cons_succ]; rfl)); (focus (rw [hops.out]; rfl)); (focus (go_simp; with_reducible rfl)); (focus (simp only [Act.put, List.setIfInBounds_toArray, List.set_cons_zero, List.set_cons_succ]; rfl)))
            have hst := pg_store (.int .i64 (nb y3)) (.int .u32 (nb nm)) (.slice A' 4080 c') HROW.out (by simp [Value.oneCell'])
            (refine sch_storeR (o := ?_) (at_of hops.out ?_) ?_ 45 (.tmp 5) (.tmp 26) ?_ ?_ (.pointer (some ⟨gP, 0, none⟩)) (.agg #[.int .i64 (nb y3), .int .u32 (nb nm), .slice A' 4080 c']) ?_ ?_ hst (below_setRow (Below.refl _ _) (Nat.le_trans (Nat.le_of_lt HGL.out) HGP.out) _) ?_; rotate_left 1; (focus (simp only [List.getElem?_toArray, List.getElem?_cons_zero, List.getElem?_cons_succ]; rfl)); (focus (rw [hops.out]; rfl)); (focus rfl); (focus rfl); (focus rfl); (focus rfl))
            refine sch_done ?_
            refine schB_leaf ?_
            refine sch_done ?_
            have hts := TS.tb (F := [gP]) (TB.setRow gP x13 #[.int .i64 (nb y3), .int .u32 (nb nm), .slice A' 4080 c']) (by simp)
            have HE1 := Lib.hid (setRow_heap x13 gP _ #[.int .i64 (nb y3), .int .u32 (nb nm), .slice A' 4080 c'] _ _ HROW.out)
            have HE2 := Lib.hid (hts.rd HOV.out.1 (fun ad ha hm => by simp at hm; exact HVP.out ad ha hm))
            have HE3 := Lib.hid (HFB.out.trans hts (fun y hy => .inr (by have := HGP.out; simp at hy; omega)))
            clear hst hts hops
            go_wp2_with fail
            go_meet
            case rel => exact ⟨gP, A', c', rfl, HE1.out, HE2.out, HOV.out.2.1, HOV.out.2.2, HE3.out⟩
          · skip
            (refine sch_run (o := ?_) (v := ?_) (a' := ?_) (w' := ?_) (at_of hops.out ?_) ?_ ?_ ?_ ?_ ?_; rotate_left 4; (focus (simp only [List.getElem?_toArray, List.getElem?_cons_zero, List.getElem?_cons_succ]; rfl)); (focus (rw [hops.out]; rfl)); (focus (go_simp; constructor <;> with_reducible rfl)); (focus (exact Below.alloc (Below.refl _ _) (Nat.le_trans (Nat.le_of_lt HGL.out) HFB.out.size) _)); (focus (simp only [Act.put, List.setIfInBounds_toArray, List.set_cons_zero, List.set_cons_succ]; rfl)))
            have HROW := Lib.hid (heap_alloc_new x11 (.cells #[.int .i64 0, .int .u32 0, .slice none 0 0] 45))
            have HGP := Lib.hid (show wst'.heap.size ≤ x11.heap.size from HFB.out.size)
            have HPE := Lib.hid (show x11.heap.size ≠ gE from by have h1 := (OwnV.base HOW.out gE rfl).2; omega)
            replace HOW := Lib.hid (FB.own ((FB.refl x11).alloc (.cells #[.int .i64 0, .int .u32 0, .slice none 0 0] 45)) HOW.out)
            replace HFB := Lib.hid (HFB.out.then (TS.of ((FB.refl x11).alloc (.cells #[.int .i64 0, .int .u32 0, .slice none 0 0] 45))))
            generalize x11.alloc _ = x14 at *
            generalize x11.heap.size = gP at *
            repeat (refine sch_take (o := ?_) (v := ?_) (a' := ?_) (at_of hops.out ?_) ?_ (fun W hW => ?_) ?_ ?_; rotate_left 3; (focus (simp only [List.getElem?_toArray, List.getElem?_cons_zero, List.getElem?_cons_succ]; rfl)); (focus (rw [hops.out]; rfl)); (focus (go_simp; with_reducible rfl)); (focus (simp only [Act.put, List.setIfInBounds_toArray, List.set_cons_zero, List.set_cons_succ]; rfl)))
            (refine sch_append_bytes (o := ?_) (at_of hops.out ?_) ?_ (.tmp 22) (.tmp 24) ?_ gE _ [] HOW.out ?_ (some ⟨bb, bo + 16, none⟩) 4080 (c - 16) (b.drop 16) HDL.out.symm ?_ (HDR.out _ HFB.out) (by rw [HDL.out]; simp) (by have h1 := (OwnV.base HOW.out gE rfl).2; omega) ?_; rotate_left 1; (focus (simp only [List.getElem?_toArray, List.getElem?_cons_zero, List.getElem?_cons_succ]; rfl)); (focus (rw [hops.out]; rfl)); (focus rfl); (focus rfl); (focus rfl))
            intro v' x15 ho hgr hob
            rw [List.nil_append] at ho
            have hlo : ∀ k, (Value.slice (some ⟨gE, 0, none⟩) 0 0).ownBlock = some k → g6 ≤ k := fun k hk => by cases hk; exact Nat.le_trans (Nat.le_of_lt HGL.out) HGE.out
            refine ⟨Below.grown (Below.refl _ _) hgr (Nat.le_trans (Nat.le_of_lt HGL.out) HFB.out.size) hlo, ?_⟩
            intro a' ha'; simp only [Act.put, List.setIfInBounds_toArray, List.set_cons_zero, List.set_cons_succ] at ha'; subst ha'
            obtain ⟨A', c', rfl, h1, h2, h3, h4⟩ := Own.form ho
            rw [HDL.out] at ho h1 hob ⊢
            have HVP := Lib.hid (fun ad (ha : A' = some ad) => show ad.block ≠ gP from by
              subst ha
              have h5 := (Array.getElem?_eq_some_iff.1 HROW.out).1
              rcases hob with e | e <;> simp [Value.ownBlock] at e <;> have := HPE.out <;> omega)
            replace HROW := Lib.hid ((hgr.block _ (Array.getElem?_eq_some_iff.1 HROW.out).1 (fun e => by cases e; exact HPE.out rfl)).trans HROW.out)
            have HOV := Lib.hid (And.intro h3 (And.intro h1 h2))
            have HAL := Lib.hid (fun ad (ha : A' = some ad) => (h4 ad ha).2)
            replace HFB := Lib.hid (HFB.out.trans (ts_grownC (g := g6) hgr) (fun y hy => by
              rcases List.mem_cons.1 hy with e | e
              · exact .inl (by rw [e]; simp)
              · rw [Option.mem_toList] at e; cases e; exact .inr HGE.out))
            clear ho hgr hob hlo h1 h2 h3 h4 HOW
            repeat (refine sch_take (o := ?_) (v := ?_) (a' := ?_) (at_of hops.out ?_) ?_ (fun W hW => ?_) ?_ ?_; rotate_left 3; (focus (simp only [List.getElem?_toArray, List.getElem?_cons_zero, List.getElem?_cons_succ]; rfl)); (focus (rw [hops.out]; rfl)); (focus (go_simp; with_reducible rfl)); (focus (simp only [Act.put, List.setIfInBounds_toArray, List.set_cons_zero, List.set_cons_succ]; rfl)))
            have hst := pg_store (.int .i64 (nb y3)) (.int .u32 (nb nm)) (.slice A' 4080 c') HROW.out (by simp [Value.oneCell'])
            (refine sch_storeR (o := ?_) (at_of hops.out ?_) ?_ 45 (.tmp 5) (.tmp 26) ?_ ?_ (.pointer (some ⟨gP, 0, none⟩)) (.agg #[.int .i64 (nb y3), .int .u32 (nb nm), .slice A' 4080 c']) ?_ ?_ hst (below_setRow (Below.refl _ _) (Nat.le_trans (Nat.le_of_lt HGL.out) HGP.out) _) ?_; rotate_left 1; (focus (simp only [List.getElem?_toArray, List.getElem?_cons_zero, List.getElem?_cons_succ]; rfl)); (focus (rw [hops.out]; rfl)); (focus rfl); (focus rfl); (focus rfl); (focus rfl))
            refine sch_done ?_
            refine schB_leaf ?_
            refine sch_done ?_
            have hts := TS.tb (F := [gP]) (TB.setRow gP x15 #[.int .i64 (nb y3), .int .u32 (nb nm), .slice A' 4080 c']) (by simp)
            have HE1 := Lib.hid (setRow_heap x15 gP _ #[.int .i64 (nb y3), .int .u32 (nb nm), .slice A' 4080 c'] _ _ HROW.out)
            have HE2 := Lib.hid (hts.rd HOV.out.1 (fun ad ha hm => by simp at hm; exact HVP.out ad ha hm))
            have HE3 := Lib.hid (HFB.out.trans hts (fun y hy => .inr (by have := HGP.out; simp at hy; omega)))
            clear hst hts hops
            go_wp2_with fail
            go_meet
            case rel => exact ⟨gP, A', c', rfl, HE1.out, HE2.out, HOV.out.2.1, HOV.out.2.2, HE3.out⟩
        · skip
          (refine sch_run (o := ?_) (v := ?_) (a' := ?_) (w' := ?_) (at_of hops.out ?_) ?_ ?_ ?_ ?_ ?_; rotate_left 4; (focus (simp only [List.getElem?_toArray, List.getElem?_cons_zero, List.getElem?_cons_succ]; rfl)); (focus (rw [hops.out]; rfl)); (focus (go_simp; constructor <;> with_reducible rfl)); (focus (exact Below.alloc (Below.refl _ _) (Nat.le_trans (Nat.le_of_lt HGL.out) HFB.out.size) _)); (focus (simp only [Act.put, List.setIfInBounds_toArray, List.set_cons_zero, List.set_cons_succ]; rfl)))
          have HROW := Lib.hid (heap_alloc_new x10 (.cells #[.int .i64 0, .int .u32 0, .slice none 0 0] 45))
          have HGP := Lib.hid (show wst'.heap.size ≤ x10.heap.size from HFB.out.size)
          replace HRD := Lib.hid (HRD.out.fb ((FB.refl x10).alloc (.cells #[.int .i64 0, .int .u32 0, .slice none 0 0] 45)))
          have HPE := Lib.hid (show x10.heap.size ≠ gE from by have h1 := (OwnV.base HOW.out gE rfl).2; omega)
          replace HOW := Lib.hid (FB.own ((FB.refl x10).alloc (.cells #[.int .i64 0, .int .u32 0, .slice none 0 0] 45)) HOW.out)
          replace HFB := Lib.hid (HFB.out.then (TS.of ((FB.refl x10).alloc (.cells #[.int .i64 0, .int .u32 0, .slice none 0 0] 45))))
          generalize x10.alloc _ = x16 at *
          generalize x10.heap.size = gP at *
          repeat (refine sch_take (o := ?_) (v := ?_) (a' := ?_) (at_of hops.out ?_) ?_ (fun W hW => ?_) ?_ ?_; rotate_left 3; (focus (simp only [List.getElem?_toArray, List.getElem?_cons_zero, List.getElem?_cons_succ]; rfl)); (focus (rw [hops.out]; rfl)); (focus (go_simp; with_reducible rfl)); (focus (simp only [Act.put, List.setIfInBounds_toArray, List.set_cons_zero, List.set_cons_succ]; rfl)))
          have HWC := Lib.hid (HWRD.out _ HRD.out)
          (refine sch_call (o := ?_) (f := ?_) (args := ?_) (at_of hops.out ?_) ?_ ?_ ?_; rotate_left 3; (focus (simp only [List.getElem?_toArray, List.getElem?_cons_zero, List.getElem?_cons_succ]; rfl)); (focus (rw [hops.out]; rfl)); (focus (go_simp; constructor <;> with_reducible rfl)); (first | ((with_reducible refine (HWC.out).mono ?_); rintro e x17 ⟨rfl, hts⟩; refine ⟨_, rfl, (ts_bl hts HGL.out HFB.out.size), ?_⟩; intro a' ha'; simp only [Act.put, List.setIfInBounds_toArray, List.set_cons_zero, List.set_cons_succ] at ha'; subst ha')))
          replace HOW := Lib.hid (hts.ownV HOW.out (fun k hk hm => by cases hk; simp at hm; have h1 := HGE.out; have h2 := HGL.out; omega))
          replace HROW := Lib.hid ((hts.block _ (Array.getElem?_eq_some_iff.1 HROW.out).1 (by have h1 := HGP.out; have h2 := HGL.out; simp; omega)).trans HROW.out)
          replace HFB := Lib.hid (HFB.out.then hts)
          clear hts HRD HWC
          repeat (refine sch_take (o := ?_) (v := ?_) (a' := ?_) (at_of hops.out ?_) ?_ (fun W hW => ?_) ?_ ?_; rotate_left 3; (focus (simp only [List.getElem?_toArray, List.getElem?_cons_zero, List.getElem?_cons_succ]; rfl)); (focus (rw [hops.out]; rfl)); (focus (go_simp; with_reducible rfl)); (focus (simp only [Act.put, List.setIfInBounds_toArray, List.set_cons_zero, List.set_cons_succ]; rfl)))
          (refine sch_append_bytes (o := ?_) (at_of hops.out ?_) ?_ (.tmp 22) (.tmp 24) ?_ gE _ [] HOW.out ?_ (some ⟨bb, bo + 16, none⟩) 4080 (c - 16) (b.drop 16) HDL.out.symm ?_ (HDR.out _ HFB.out) (by rw [HDL.out]; simp) (by have h1 := (OwnV.base HOW.out gE rfl).2; omega) ?_; rotate_left 1; (focus (simp only [List.getElem?_toArray, List.getElem?_cons_zero, List.getElem?_cons_succ]; rfl)); (focus (rw [hops.out]; rfl)); (focus rfl); (focus rfl); (focus rfl))
          intro v' x18 ho hgr hob
          rw [List.nil_append] at ho
          have hlo : ∀ k, (Value.slice (some ⟨gE, 0, none⟩) 0 0).ownBlock = some k → g6 ≤ k := fun k hk => by cases hk; exact Nat.le_trans (Nat.le_of_lt HGL.out) HGE.out
          refine ⟨Below.grown (Below.refl _ _) hgr (Nat.le_trans (Nat.le_of_lt HGL.out) HFB.out.size) hlo, ?_⟩
          intro a' ha'; simp only [Act.put, List.setIfInBounds_toArray, List.set_cons_zero, List.set_cons_succ] at ha'; subst ha'
          obtain ⟨A', c', rfl, h1, h2, h3, h4⟩ := Own.form ho
          rw [HDL.out] at ho h1 hob ⊢
          have HVP := Lib.hid (fun ad (ha : A' = some ad) => show ad.block ≠ gP from by
            subst ha
            have h5 := (Array.getElem?_eq_some_iff.1 HROW.out).1
            rcases hob with e | e <;> simp [Value.ownBlock] at e <;> have := HPE.out <;> omega)
          replace HROW := Lib.hid ((hgr.block _ (Array.getElem?_eq_some_iff.1 HROW.out).1 (fun e => by cases e; exact HPE.out rfl)).trans HROW.out)
          have HOV := Lib.hid (And.intro h3 (And.intro h1 h2))
          have HAL := Lib.hid (fun ad (ha : A' = some ad) => (h4 ad ha).2)
          replace HFB := Lib.hid (HFB.out.trans (ts_grownC (g := g6) hgr) (fun y hy => by
            rcases List.mem_cons.1 hy with e | e
            · exact .inl (by rw [e]; simp)
            · rw [Option.mem_toList] at e; cases e; exact .inr HGE.out))
          clear ho hgr hob hlo h1 h2 h3 h4 HOW
          repeat (refine sch_take (o := ?_) (v := ?_) (a' := ?_) (at_of hops.out ?_) ?_ (fun W hW => ?_) ?_ ?_; rotate_left 3; (focus (simp only [List.getElem?_toArray, List.getElem?_cons_zero, List.getElem?_cons_succ]; rfl)); (focus (rw [hops.out]; rfl)); (focus (go_simp; with_reducible rfl)); (focus (simp only [Act.put, List.setIfInBounds_toArray, List.set_cons_zero, List.set_cons_succ]; rfl)))
          have hst := pg_store (.int .i64 (nb y3)) (.int .u32 (nb nm)) (.slice A' 4080 c') HROW.out (by simp [Value.oneCell'])
          (refine sch_storeR (o := ?_) (at_of hops.out ?_) ?_ 45 (.tmp 5) (.tmp 26) ?_ ?_ (.pointer (some ⟨gP, 0, none⟩)) (.agg #[.int .i64 (nb y3), .int .u32 (nb nm), .slice A' 4080 c']) ?_ ?_ hst (below_setRow (Below.refl _ _) (Nat.le_trans (Nat.le_of_lt HGL.out) HGP.out) _) ?_; rotate_left 1; (focus (simp only [List.getElem?_toArray, List.getElem?_cons_zero, List.getElem?_cons_succ]; rfl)); (focus (rw [hops.out]; rfl)); (focus rfl); (focus rfl); (focus rfl); (focus rfl))
          refine sch_done ?_
          refine schB_leaf ?_
          refine sch_done ?_
          have hts := TS.tb (F := [gP]) (TB.setRow gP x18 #[.int .i64 (nb y3), .int .u32 (nb nm), .slice A' 4080 c']) (by simp)
          have HE1 := Lib.hid (setRow_heap x18 gP _ #[.int .i64 (nb y3), .int .u32 (nb nm), .slice A' 4080 c'] _ _ HROW.out)
          have HE2 := Lib.hid (hts.rd HOV.out.1 (fun ad ha hm => by simp at hm; exact HVP.out ad ha hm))
          have HE3 := Lib.hid (HFB.out.trans hts (fun y hy => .inr (by have := HGP.out; simp at hy; omega)))
          clear hst hts hops
          go_wp2_with fail
          go_meet
          case rel => exact ⟨gP, A', c', rfl, HE1.out, HE2.out, HOV.out.2.1, HOV.out.2.2, HE3.out⟩
      · skip
        (refine sch_run (o := ?_) (v := ?_) (a' := ?_) (w' := ?_) (at_of hops.out ?_) ?_ ?_ ?_ ?_ ?_; rotate_left 4; (focus (simp only [List.getElem?_toArray, List.getElem?_cons_zero, List.getElem?_cons_succ]; rfl)); (focus (rw [hops.out]; rfl)); (focus (go_simp; constructor <;> with_reducible rfl)); (focus (exact Below.alloc (Below.refl _ _) (Nat.le_trans (Nat.le_of_lt HGL.out) HFB.out.size) _)); (focus (simp only [Act.put, List.setIfInBounds_toArray, List.set_cons_zero, List.set_cons_succ]; rfl)))
        have HROW := Lib.hid (heap_alloc_new wF0 (.cells #[.int .i64 0, .int .u32 0, .slice none 0 0] 45))
        have HGP := Lib.hid (show wst'.heap.size ≤ wF0.heap.size from HFB.out.size)
        replace HRD := Lib.hid (HRD.out.fb ((FB.refl wF0).alloc (.cells #[.int .i64 0, .int .u32 0, .slice none 0 0] 45)))
        replace HFB := Lib.hid (HFB.out.then (TS.of ((FB.refl wF0).alloc (.cells #[.int .i64 0, .int .u32 0, .slice none 0 0] 45))))
        generalize wF0.alloc _ = x19 at *
        generalize wF0.heap.size = gP at *
        repeat (refine sch_take (o := ?_) (v := ?_) (a' := ?_) (at_of hops.out ?_) ?_ (fun W hW => ?_) ?_ ?_; rotate_left 3; (focus (simp only [List.getElem?_toArray, List.getElem?_cons_zero, List.getElem?_cons_succ]; rfl)); (focus (rw [hops.out]; rfl)); (focus (go_simp; with_reducible rfl)); (focus (simp only [Act.put, List.setIfInBounds_toArray, List.set_cons_zero, List.set_cons_succ]; rfl)))
        refine sch_done ?_
        refine schB_two ?_ ?_
        · skip
          have HWC := Lib.hid (HWRD.out _ HRD.out)
          (refine sch_call (o := ?_) (f := ?_) (args := ?_) (at_of hops.out ?_) ?_ ?_ ?_; rotate_left 3; (focus (simp only [List.getElem?_toArray, List.getElem?_cons_zero, List.getElem?_cons_succ]; rfl)); (focus (rw [hops.out]; rfl)); (focus (go_simp; constructor <;> with_reducible rfl)); (first | ((with_reducible refine (HWC.out).mono ?_); rintro e x20 ⟨rfl, hts⟩; refine ⟨_, rfl, (ts_bl hts HGL.out HFB.out.size), ?_⟩; intro a' ha'; simp only [Act.put, List.setIfInBounds_toArray, List.set_cons_zero, List.set_cons_succ] at ha'; subst ha')))
          replace HROW := Lib.hid ((hts.block _ (Array.getElem?_eq_some_iff.1 HROW.out).1 (by have h1 := HGP.out; have h2 := HGL.out; simp; omega)).trans HROW.out)
          replace HFB := Lib.hid (HFB.out.then hts)
          clear hts HRD HWC
          repeat (refine sch_take (o := ?_) (v := ?_) (a' := ?_) (at_of hops.out ?_) ?_ (fun W hW => ?_) ?_ ?_; rotate_left 3; (focus (simp only [List.getElem?_toArray, List.getElem?_cons_zero, List.getElem?_cons_succ]; rfl)); (focus (rw [hops.out]; rfl)); (focus (go_simp; with_reducible rfl)); (focus (simp only [Act.put, List.setIfInBounds_toArray, List.set_cons_zero, List.set_cons_succ]; rfl)))
          (refine sch_run (o := ?_) (v := ?_) (a' := ?_) (w' := ?_) (at_of hops.out ?_) ?_ ?_ ?_ ?_ ?_; rotate_left 4; (focus (simp only [List.getElem?_toArray, List.getElem?_cons_zero, List.getElem?_cons_succ]; rfl)); (focus (rw [hops.out]; rfl)); (focus (go_simp; constructor <;> with_reducible rfl)); (focus (exact Below.alloc (Below.refl _ _) (Nat.le_trans (Nat.le_of_lt HGL.out) HFB.out.size) _)); (focus (simp only [Act.put, List.setIfInBounds_toArray, List.set_cons_zero, List.set_cons_succ]; rfl)))
          have HOW := Lib.hid (show Own (x20.alloc (.cells #[] 5)) x20.heap.size (.slice (some ⟨x20.heap.size, 0, none⟩) 0 0) [] from OwnV.lit _ x20 [] (by simp))
          have HGE := Lib.hid (show wst'.heap.size ≤ x20.heap.size from HFB.out.size)
          have HPE := Lib.hid (show gP ≠ x20.heap.size from by have h1 := (Array.getElem?_eq_some_iff.1 HROW.out).1; omega)
          replace HROW := Lib.hid ((((FB.refl x20).alloc (.cells #[] 5)).block _ (Array.getElem?_eq_some_iff.1 HROW.out).1).trans HROW.out)
          replace HFB := Lib.hid (HFB.out.then (TS.of ((FB.refl x20).alloc (.cells #[] 5))))
          generalize x20.alloc _ = x21 at *
          generalize x20.heap.size = gE at *
          repeat (refine sch_take (o := ?_) (v := ?_) (a' := ?_) (at_of hops.out ?_) ?_ (fun W hW => ?_) ?_ ?_; rotate_left 3; (focus (simp only [List.getElem?_toArray, List.getElem?_cons_zero, List.getElem?_cons_succ]; rfl)); (focus (rw [hops.out]; rfl)); (focus (go_simp; with_reducible rfl)); (focus (simp only [Act.put, List.setIfInBounds_toArray, List.set_cons_zero, List.set_cons_succ]; rfl)))
          (refine sch_append_bytes (o := ?_) (at_of hops.out ?_) ?_ (.tmp 22) (.tmp 24) ?_ gE _ [] HOW.out ?_ (some ⟨bb, bo + 16, none⟩) 4080 (c - 16) (b.drop 16) HDL.out.symm ?_ (HDR.out _ HFB.out) (by rw [HDL.out]; simp) (by have h1 := (OwnV.base HOW.out gE rfl).2; omega) ?_; rotate_left 1; (focus (simp only [List.getElem?_toArray, List.getElem?_cons_zero, List.getElem?_cons_succ]; rfl)); (focus (rw [hops.out]; rfl)); (focus rfl); (focus rfl); (focus rfl))
          intro v' x22 ho hgr hob
          rw [List.nil_append] at ho
          have hlo : ∀ k, (Value.slice (some ⟨gE, 0, none⟩) 0 0).ownBlock = some k → g6 ≤ k := fun k hk => by cases hk; exact Nat.le_trans (Nat.le_of_lt HGL.out) HGE.out
          refine ⟨Below.grown (Below.refl _ _) hgr (Nat.le_trans (Nat.le_of_lt HGL.out) HFB.out.size) hlo, ?_⟩
          intro a' ha'; simp only [Act.put, List.setIfInBounds_toArray, List.set_cons_zero, List.set_cons_succ] at ha'; subst ha'
          obtain ⟨A', c', rfl, h1, h2, h3, h4⟩ := Own.form ho
          rw [HDL.out] at ho h1 hob ⊢
          have HVP := Lib.hid (fun ad (ha : A' = some ad) => show ad.block ≠ gP from by
            subst ha
            have h5 := (Array.getElem?_eq_some_iff.1 HROW.out).1
            rcases hob with e | e <;> simp [Value.ownBlock] at e <;> have := HPE.out <;> omega)
          replace HROW := Lib.hid ((hgr.block _ (Array.getElem?_eq_some_iff.1 HROW.out).1 (fun e => by cases e; exact HPE.out rfl)).trans HROW.out)
          have HOV := Lib.hid (And.intro h3 (And.intro h1 h2))
          have HAL := Lib.hid (fun ad (ha : A' = some ad) => (h4 ad ha).2)
          replace HFB := Lib.hid (HFB.out.trans (ts_grownC (g := g6) hgr) (fun y hy => by
            rcases List.mem_cons.1 hy with e | e
            · exact .inl (by rw [e]; simp)
            · rw [Option.mem_toList] at e; cases e; exact .inr HGE.out))
          clear ho hgr hob hlo h1 h2 h3 h4 HOW
          repeat (refine sch_take (o := ?_) (v := ?_) (a' := ?_) (at_of hops.out ?_) ?_ (fun W hW => ?_) ?_ ?_; rotate_left 3; (focus (simp only [List.getElem?_toArray, List.getElem?_cons_zero, List.getElem?_cons_succ]; rfl)); (focus (rw [hops.out]; rfl)); (focus (go_simp; with_reducible rfl)); (focus (simp only [Act.put, List.setIfInBounds_toArray, List.set_cons_zero, List.set_cons_succ]; rfl)))
          have hst := pg_store (.int .i64 (nb y3)) (.int .u32 (nb nm)) (.slice A' 4080 c') HROW.out (by simp [Value.oneCell'])
          (refine sch_storeR (o := ?_) (at_of hops.out ?_) ?_ 45 (.tmp 5) (.tmp 26) ?_ ?_ (.pointer (some ⟨gP, 0, none⟩)) (.agg #[.int .i64 (nb y3), .int .u32 (nb nm), .slice A' 4080 c']) ?_ ?_ hst (below_setRow (Below.refl _ _) (Nat.le_trans (Nat.le_of_lt HGL.out) HGP.out) _) ?_; rotate_left 1; (focus (simp only [List.getElem?_toArray, List.getElem?_cons_zero, List.getElem?_cons_succ]; rfl)); (focus (rw [hops.out]; rfl)); (focus rfl); (focus rfl); (focus rfl); (focus rfl))
          refine sch_done ?_
          refine schB_leaf ?_
          refine sch_done ?_
          have hts := TS.tb (F := [gP]) (TB.setRow gP x22 #[.int .i64 (nb y3), .int .u32 (nb nm), .slice A' 4080 c']) (by simp)
          have HE1 := Lib.hid (setRow_heap x22 gP _ #[.int .i64 (nb y3), .int .u32 (nb nm), .slice A' 4080 c'] _ _ HROW.out)
          have HE2 := Lib.hid (hts.rd HOV.out.1 (fun ad ha hm => by simp at hm; exact HVP.out ad ha hm))
          have HE3 := Lib.hid (HFB.out.trans hts (fun y hy => .inr (by have := HGP.out; simp at hy; omega)))
          clear hst hts hops
          go_wp2_with fail
          go_meet
          case rel => exact ⟨gP, A', c', rfl, HE1.out, HE2.out, HOV.out.2.1, HOV.out.2.2, HE3.out⟩
        · skip
          (refine sch_run (o := ?_) (v := ?_) (a' := ?_) (w' := ?_) (at_of hops.out ?_) ?_ ?_ ?_ ?_ ?_; rotate_left 4; (focus (simp only [List.getElem?_toArray, List.getElem?_cons_zero, List.getElem?_cons_succ]; rfl)); (focus (rw [hops.out]; rfl)); (focus (go_simp; constructor <;> with_reducible rfl)); (focus (exact Below.alloc (Below.refl _ _) (Nat.le_trans (Nat.le_of_lt HGL.out) HFB.out.size) _)); (focus (simp only [Act.put, List.setIfInBounds_toArray, List.set_cons_zero, List.set_cons_succ]; rfl)))
          have HOW := Lib.hid (show Own (x19.alloc (.cells #[] 5)) x19.heap.size (.slice (some ⟨x19.heap.size, 0, none⟩) 0 0) [] from OwnV.lit _ x19 [] (by simp))
          have HGE := Lib.hid (show wst'.heap.size ≤ x19.heap.size from HFB.out.size)
          replace HRD := Lib.hid (HRD.out.fb ((FB.refl x19).alloc (.cells #[] 5)))
          have HPE := Lib.hid (show gP ≠ x19.heap.size from by have h1 := (Array.getElem?_eq_some_iff.1 HROW.out).1; omega)
          replace HROW := Lib.hid ((((FB.refl x19).alloc (.cells #[] 5)).block _ (Array.getElem?_eq_some_iff.1 HROW.out).1).trans HROW.out)
          replace HFB := Lib.hid (HFB.out.then (TS.of ((FB.refl x19).alloc (.cells #[] 5))))
          generalize x19.alloc _ = x23 at *
          generalize x19.heap.size = gE at *
          repeat (refine sch_take (o := ?_) (v := ?_) (a' := ?_) (at_of hops.out ?_) ?_ (fun W hW => ?_) ?_ ?_; rotate_left 3; (focus (simp only [List.getElem?_toArray, List.getElem?_cons_zero, List.getElem?_cons_succ]; rfl)); (focus (rw [hops.out]; rfl)); (focus (go_simp; with_reducible rfl)); (focus (simp only [Act.put, List.setIfInBounds_toArray, List.set_cons_zero, List.set_cons_succ]; rfl)))
          have HWC := Lib.hid (HWRD.out _ HRD.out)
          (refine sch_call (o := ?_) (f := ?_) (args := ?_) (at_of hops.out ?_) ?_ ?_ ?_; rotate_left 3; (focus (simp only [List.getElem?_toArray, List.getElem?_cons_zero, List.getElem?_cons_succ]; rfl)); (focus (rw [hops.out]; rfl)); (focus (go_simp; constructor <;> with_reducible rfl)); (first | ((with_reducible refine (HWC.out).mono ?_); rintro e x24 ⟨rfl, hts⟩; refine ⟨_, rfl, (ts_bl hts HGL.out HFB.out.size), ?_⟩; intro a' ha'; simp only [Act.put, List.setIfInBounds_toArray, List.set_cons_zero, List.set_cons_succ] at ha'; subst ha')))
          replace HOW := Lib.hid (hts.ownV HOW.out (fun k hk hm => by cases hk; simp at hm; have h1 := HGE.out; have h2 := HGL.out; omega))
          replace HROW := Lib.hid ((hts.block _ (Array.getElem?_eq_some_iff.1 HROW.out).1 (by have h1 := HGP.out; have h2 := HGL.out; simp; omega)).trans HROW.out)
          replace HFB := Lib.hid (HFB.out.then hts)
          clear hts HRD HWC
          repeat (refine sch_take (o := ?_) (v := ?_) (a' := ?_) (at_of hops.out ?_) ?_ (fun W hW => ?_) ?_ ?_; rotate_left 3; (focus (simp only [List.getElem?_toArray, List.getElem?_cons_zero, List.getElem?_cons_succ]; rfl)); (focus (rw [hops.out]; rfl)); (focus (go_simp; with_reducible rfl)); (focus (simp only [Act.put, List.setIfInBounds_toArray, List.set_cons_zero, List.set_cons_succ]; rfl)))
          (refine sch_append_bytes (o := ?_) (at_of hops.out ?_) ?_ (.tmp 22) (.tmp 24) ?_ gE _ [] HOW.out ?_ (some ⟨bb, bo + 16, none⟩) 4080 (c - 16) (b.drop 16) HDL.out.symm ?_ (HDR.out _ HFB.out) (by rw [HDL.out]; simp) (by have h1 := (OwnV.base HOW.out gE rfl).2; omega) ?_; rotate_left 1; (focus (simp only [List.getElem?_toArray, List.getElem?_cons_zero, List.getElem?_cons_succ]; rfl)); (focus (rw [hops.out]; rfl)); (focus rfl); (focus rfl); (focus rfl))
          intro v' x25 ho hgr hob
          rw [List.nil_append] at ho
          have hlo : ∀ k, (Value.slice (some ⟨gE, 0, none⟩) 0 0).ownBlock = some k → g6 ≤ k := fun k hk => by cases hk; exact Nat.le_trans (Nat.le_of_lt HGL.out) HGE.out
          refine ⟨Below.grown (Below.refl _ _) hgr (Nat.le_trans (Nat.le_of_lt HGL.out) HFB.out.size) hlo, ?_⟩
          intro a' ha'; simp only [Act.put, List.setIfInBounds_toArray, List.set_cons_zero, List.set_cons_succ] at ha'; subst ha'
          obtain ⟨A', c', rfl, h1, h2, h3, h4⟩ := Own.form ho
          rw [HDL.out] at ho h1 hob ⊢
          have HVP := Lib.hid (fun ad (ha : A' = some ad) => show ad.block ≠ gP from by
            subst ha
            have h5 := (Array.getElem?_eq_some_iff.1 HROW.out).1
            rcases hob with e | e <;> simp [Value.ownBlock] at e <;> have := HPE.out <;> omega)
          replace HROW := Lib.hid ((hgr.block _ (Array.getElem?_eq_some_iff.1 HROW.out).1 (fun e => by cases e; exact HPE.out rfl)).trans HROW.out)
          have HOV := Lib.hid (And.intro h3 (And.intro h1 h2))
          have HAL := Lib.hid (fun ad (ha : A' = some ad) => (h4 ad ha).2)
          replace HFB := Lib.hid (HFB.out.trans (ts_grownC (g := g6) hgr) (fun y hy => by
            rcases List.mem_cons.1 hy with e | e
            · exact .inl (by rw [e]; simp)
            · rw [Option.mem_toList] at e; cases e; exact .inr HGE.out))
          clear ho hgr hob hlo h1 h2 h3 h4 HOW
          repeat (refine sch_take (o := ?_) (v := ?_) (a' := ?_) (at_of hops.out ?_) ?_ (fun W hW => ?_) ?_ ?_; rotate_left 3; (focus (simp only [List.getElem?_toArray, List.getElem?_cons_zero, List.getElem?_cons_succ]; rfl)); (focus (rw [hops.out]; rfl)); (focus (go_simp; with_reducible rfl)); (focus (simp only [Act.put, List.setIfInBounds_toArray, List.set_cons_zero, List.set_cons_succ]; rfl)))
          have hst := pg_store (.int .i64 (nb y3)) (.int .u32 (nb nm)) (.slice A' 4080 c') HROW.out (by simp [Value.oneCell'])
          (refine sch_storeR (o := ?_) (at_of hops.out ?_) ?_ 45 (.tmp 5) (.tmp 26) ?_ ?_ (.pointer (some ⟨gP, 0, none⟩)) (.agg #[.int .i64 (nb y3), .int .u32 (nb nm), .slice A' 4080 c']) ?_ ?_ hst (below_setRow (Below.refl _ _) (Nat.le_trans (Nat.le_of_lt HGL.out) HGP.out) _) ?_; rotate_left 1; (focus (simp only [List.getElem?_toArray, List.getElem?_cons_zero, List.getElem?_cons_succ]; rfl)); (focus (rw [hops.out]; rfl)); (focus rfl); (focus rfl); (focus rfl); (focus rfl))
          refine sch_done ?_
          refine schB_leaf ?_
          refine sch_done ?_
          have hts := TS.tb (F := [gP]) (TB.setRow gP x25 #[.int .i64 (nb y3), .int .u32 (nb nm), .slice A' 4080 c']) (by simp)
          have HE1 := Lib.hid (setRow_heap x25 gP _ #[.int .i64 (nb y3), .int .u32 (nb nm), .slice A' 4080 c'] _ _ HROW.out)
          have HE2 := Lib.hid (hts.rd HOV.out.1 (fun ad ha hm => by simp at hm; exact HVP.out ad ha hm))
          have HE3 := Lib.hid (HFB.out.trans hts (fun y hy => .inr (by have := HGP.out; simp at hy; omega)))
          clear hst hts hops
          go_wp2_with fail
          go_meet
          case rel => exact ⟨gP, A', c', rfl, HE1.out, HE2.out, HOV.out.2.1, HOV.out.2.2, HE3.out⟩
    case rest =>
      obtain ⟨gP, A', c', rfl, HE1, HE2, HE3, HE4, HE5⟩ := hcut
      have HXC := Lib.hid ((HE5.out.block _ (Array.getElem?_eq_some_iff.1 HXS.out).1 (by have := HGW.out; simp; omega)).trans HXS.out)
      have HFW := Lib.hid (HFS.out.ts HE5.out (fun y hy => by have := HGW.out; simp at hy; omega))
      obtain ⟨q0, q1, q2⟩ := prow3 HE1.out
      have hcw := r5_Bytes (nb y3) nm (b.drop 16) A' c' wc (by rw [HDL.out]; omega) HE2.out
      rw [HDL.out] at hcw
      generalize hrb : pgB (nb y3) nm (b.drop 16) = rb at *
      obtain ⟨ys, eb⟩ := rb
      have HRB := Lib.hid hrb
      have HC := Lib.hid hcw
      clear hcw hrb
      go_wp2_with fail
      clear q0 q1 q2
      refine HC.out.mono ?_
      rintro e w3 ⟨A9, c9, rfl, ho9, hb⟩
      have hr9 : Rd w3 A9 ys := (Own.info ho9).2.2.1
      have HR9 := Lib.hid hr9
      have HF3 := Lib.hid (HFW.out.trans hb)
      have HX3 := Lib.hid ((hb.block _ (Array.getElem?_eq_some_iff.1 HXC.out).1).trans HXC.out)
      have HP3 := Lib.hid ((hb.block _ (Array.getElem?_eq_some_iff.1 HE1.out).1).trans HE1.out)
      have HD3 := Lib.hid (hb.rd HE2.out)
      clear hb ho9 hr9 HC
      by_cases heb : eb = 0
      · subst heb
        have hs1 := run_string c9 HR9.out
        have hs2 := run_string c (HF3.out.rd HR.out)
        rw [HLN.out] at hs2
        by_cases hyb : ys = b
        · have HRQ := Lib.hid (show R = ((nb y3, nm, b.drop 16), 0) from by rw [HRR.out, if_pos ⟨HLN.out, by rw [hyb]⟩])
          have hse : ((sb ys).toList == (sb b).toList) = true := by rw [sb_beq]; simpa using hyb
          obtain ⟨q0, q1, q2⟩ := prow3 HP3.out
          have hst := pg_store (.int .i64 (nb y3)) (.int .u32 (nb nm)) (.slice A' 4080 c') HX3.out (by simp [Value.oneCell'])
          have HROW := Lib.hid (setRow_heap _ w.heap.size _ #[.int .i64 (nb y3), .int .u32 (nb nm), .slice A' 4080 c'] _ _ HX3.out)
          have HEND := Lib.hid (HF3.out.setRow (g := w.heap.size) (Nat.le_refl _) #[.int .i64 (nb y3), .int .u32 (nb nm), .slice A' 4080 c'])
          have HRDD := Lib.hid (Rd.overP HX3.out HD3.out (TS.tb (TB.setRow w.heap.size w3 #[.int .i64 (nb y3), .int .u32 (nb nm), .slice A' 4080 c']) (by simp)))
          clear hyb
          go_wp2_with (refine wpList_store_by rfl _ _ _ rfl _ hst ?_)
          try simp only [Exit.inBlock, Exit.then]
          refine bodyPost_ret (pg_ret rfl _ w.heap.size rfl _ HROW.out) rfl ?_
          rw [HRQ.out]
          exact ⟨A', c', by simp only [HDL.out]; rfl, HRDD.out, by simp only [HDL.out]; exact HE3.out, HE4.out, HEND.out⟩
        · have HRQ := Lib.hid (show R = ((0, 0#32, []), 4) from by rw [HRR.out, if_neg (fun h => hyb (congrArg Prod.fst h.2))])
          have hse : ((sb ys).toList == (sb b).toList) = false := by rw [sb_beq]; simpa using hyb
          clear hyb
          have hst := pg_store (.int .i64 0) (.int .u32 0) (.slice none 0 0) HX3.out (by simp [Value.oneCell'])
          have HROW := Lib.hid (setRow_heap _ w.heap.size _ #[.int .i64 0, .int .u32 0, .slice none 0 0] _ _ HX3.out)
          have HEND := Lib.hid (HF3.out.setRow (g := w.heap.size) (Nat.le_refl _) #[.int .i64 0, .int .u32 0, .slice none 0 0])
          go_wp2_with (refine wpList_store_by rfl _ _ _ rfl _ hst ?_)
          try simp only [Exit.inBlock, Exit.then]
          refine bodyPost_ret (pg_ret rfl _ w.heap.size rfl _ HROW.out) rfl ?_
          rw [HRQ.out]
          exact ⟨none, 0, rfl, Rd.nil _ _, by simp, by simp [maxLen], HEND.out⟩
      · have hbeb : (eb != 0) = true := by simpa using heb
        have HRQ := Lib.hid (show R = ((0, 0#32, []), 4) from by rw [HRR.out, if_neg (fun h => heb (congrArg Prod.snd h.2))])
        clear heb
        have hst := pg_store (.int .i64 0) (.int .u32 0) (.slice none 0 0) HX3.out (by simp [Value.oneCell'])
        have HROW := Lib.hid (setRow_heap _ w.heap.size _ #[.int .i64 0, .int .u32 0, .slice none 0 0] _ _ HX3.out)
        have HEND := Lib.hid (HF3.out.setRow (g := w.heap.size) (Nat.le_refl _) #[.int .i64 0, .int .u32 0, .slice none 0 0])
        go_wp2_with (refine wpList_store_by rfl _ _ _ rfl _ hst ?_)
        try simp only [Exit.inBlock, Exit.then]
        refine bodyPost_ret (pg_ret rfl _ w.heap.size rfl _ HROW.out) rfl ?_
        rw [HRQ.out]
        exact ⟨none, 0, rfl, Rd.nil _ _, by simp, by simp [maxLen], HEND.out⟩
  · obtain rfl : R = ((0, 0#32, []), 4) := by rw [hR, if_neg (fun h => h1 h.1)]
    have hbe : ((b.length : Int) != 4096) = true := by simpa using (show ¬ (b.length : Int) = 4096 by omega)
    have hst := pg_store (.int .i64 0) (.int .u32 0) (.slice none 0 0) HX0.out (by simp [Value.oneCell'])
    have HROW := Lib.hid (setRow_heap _ w.heap.size _ #[.int .i64 0, .int .u32 0, .slice none 0 0] _ _ HX0.out)
    have HEND := Lib.hid (HF.out.setRow (g := w.heap.size) (Nat.le_refl _) #[.int .i64 0, .int .u32 0, .slice none 0 0])
    clear hR hl hc hm hr h1
    go_enter Tryd.func18, Tryd.ntmps18
    go_wp2_with (refine wpList_store_by rfl _ _ _ rfl _ hst ?_)
    try simp only [Exit.inBlock, Exit.then]
    refine bodyPost_ret (pg_ret rfl _ w.heap.size rfl _ HROW.out) rfl ?_
    exact ⟨none, 0, rfl, Rd.nil _ _, by simp, by simp [maxLen], HEND.out⟩
end Go.Proofs.YtoidlmhebnlnbaaDoor
