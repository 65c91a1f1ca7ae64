/- page: the walk through Read, Kind. -/
import Derived.Test.YtoidlmhebnlnbaaDoorMCha
import Derived.Test.YtoidlmhebnlnbaaDoorMChb
import Derived.Test.YtoidlmhebnlnbaaDoorMChc
import Derived.Test.YtoidlmhebnlnbaaDoorMChd
import Derived.Test.YtoidlmhebnlnbaaDoorMChe
import Derived.Test.YtoidlmhebnlnbaaDoorMChf
import Derived.Test.YtoidlmhebnlnbaaDoorMChg
import Derived.Test.YtoidlmhebnlnbaaDoorMChh
import Derived.Test.YtoidlmhebnlnbaaDoorMChi
import Derived.Test.YtoidlmhebnlnbaaDoorMChj
import Derived.Test.YtoidlmhebnlnbaaDoorMChk
import Derived.Test.YtoidlmhebnlnbaaDoorMChl
import Derived.Test.YtoidlmhebnlnbaaDoorMChm
set_option linter.unusedVariables false
set_option linter.unusedSimpArgs false
namespace Go.Proofs.YtoidlmhebnlnbaaDoor
open Go.ChangeShapes Go.WideShapes Go.ChangeAt Go.RowKit
attribute [local go_sem] nb_nonneg nb_lt8 nb_lt64
set_option maxRecDepth 100000

theorem tb_bl {N g : Nat} {w w' : World} (h : TB g w w') (hg : N ≤ g) (hs : N ≤ w.heap.size) : Below N w w' :=
  ⟨h.os, h.tape, h.output, h.size, fun k hk => h.block k (Nat.lt_of_lt_of_le hk hs) (fun e => by cases e; omega)⟩
/-- Bytes are no page. -/
theorem Rd.neP {W : World} {g : Nat} {x n : Int} {B : Option Addr} {m c : Nat} {t : TypeId} {fr : Nat × Nat} {A : Option Addr} {xs : List Byte} (hg : W.heap[g]? = some (.cells #[.int .i64 x, .int .u32 n, .slice B m c] t fr)) (h : Rd W A xs) (hx : 0 < xs.length) :
    ∀ ad, A = some ad → ad.block ≠ g := by
  intro ad ha e
  obtain ⟨b, o, e2, -, h2⟩ := Rd.form h hx
  rw [ha] at e2; cases e2
  simp only at e
  subst e
  have := h2 0 hx
  rw [cell_of_row _ _ _ _ _ _ hg] at this
  match o, this with
  | 0, this => simp [vb] at this
  | 1, this => simp [vb] at this
  | 2, this => simp [vb] at this
  | o + 3, this => simp at this
theorem Rd.overP {W W' : World} {g : Nat} {x n : Int} {B : Option Addr} {m c : Nat} {t : TypeId} {fr : Nat × Nat} {A : Option Addr} {xs : List Byte} (hg : W.heap[g]? = some (.cells #[.int .i64 x, .int .u32 n, .slice B m c] t fr)) (h : Rd W A xs) (ht : TS [g] W W') : Rd W' A xs := by
  by_cases hu : 0 < xs.length
  · exact ht.rd h (fun ad ha hm => Rd.neP hg h hu ad ha (by simpa using hm))
  · have : xs = [] := List.eq_nil_of_length_eq_zero (by omega)
    subst this; exact Rd.nil _ _
/-- A page, and an error, that are returned. -/
def PgRd (r : (Int × BitVec 32 × List Byte) × Int) (w : World) (e : Ending) (w' : World) : Prop :=
  ∃ A c, e = .returned (.tuple #[.agg #[.int .i64 r.1.1, .int .u32 (nb r.1.2.1), .slice A r.1.2.2.length c], .int .i64 r.2]) ∧ Rd w' A r.1.2.2 ∧ r.1.2.2.length ≤ c ∧ c ≤ maxLen ∧ FB w w'
set_option maxHeartbeats 8000000 in
theorem pg_Read (b : List Byte) (A : Option Addr) (c : Nat) (w : World) (hl : b.length ≤ 1000000000) (hc : b.length ≤ c) (hm : c ≤ maxLen) (hr : Rd w A b) :
    Calls Tryd.prog 47 #[.slice A b.length c] w fun e w' => PgRd (pgR b) w e w' := by
  have HF := Lib.hid ((FB.refl w).alloc (.cells #[.int .i64 0, .int .u32 0, .slice none 0 0] 45))
  have HX0 := Lib.hid (heap_alloc_new w (.cells #[.int .i64 0, .int .u32 0, .slice none 0 0] 45))
  have HGS := Lib.hid (show (w.alloc (.cells #[.int .i64 0, .int .u32 0, .slice none 0 0] 45)).heap.size = w.heap.size + 1 from by simp)
  have HR := Lib.hid hr
  obtain ⟨R, hR⟩ : ∃ R, R = pgR b := ⟨_, rfl⟩
  rw [← hR]
  unfold pgR at hR
  by_cases h1 : b.length = 4096
  · have hbe : ((b.length : Int) != 4096) = false := by simp [h1]
    obtain ⟨bb, bo, rfl, hbb, hcs⟩ := Rd.form hr (by omega)
    have hlen := h1
    have HLN := Lib.hid h1
    have HBL0 := Lib.hid hbb
    obtain ⟨y3, hy3⟩ : ∃ y3, y3 = b[3]'(by omega) := ⟨_, rfl⟩
    have hcell := hcs 3 (by omega)
    rw [← hy3] at hcell
    unfold vb at hcell
    have HKD := Lib.hid (show pgKd b = nb y3 from by unfold pgKd; rw [hy3, List.getD_eq_getElem?_getD, List.getElem?_eq_getElem (by omega)]; rfl)
    obtain ⟨nm, hnm⟩ : ∃ nm, nm = pgNm b := ⟨_, rfl⟩
    have HNM := Lib.hid hnm
    rw [HKD.out, ← hnm] at hR
    have HRR := Lib.hid hR
    have hwy : IntKind.i64.wrap (nb y3) = nb y3 := by rw [IntKind.wrap_i64]; have := nb_lt8 y3; have := nb_nonneg y3; omega
    have hcz := show (4096 : Int) ≤ (c : Int) by omega
    have hc8 := show (8 : Int) ≤ (c : Int) by omega
    have hc16 := show (16 : Int) ≤ (c : Int) by omega
    have hc4 := show (4 : Int) ≤ (c : Int) by omega
    have hcm := show (c : Int) ≤ 9223372036854775807 by unfold maxLen at hm; omega
    have hn4 : ¬ c = 4 := by omega
    have hn16 : ¬ c = 16 := by omega
    obtain ⟨wst, hwst⟩ : ∃ wst : World, wst = w.alloc (.cells #[.int .i64 0, .int .u32 0, .slice none 0 0] 45) := ⟨_, rfl⟩
    rw [← hwst] at HF HX0 HGS
    have HBB := Lib.hid (show bb < wst.heap.size from Nat.lt_of_lt_of_le hbb HF.out.le)
    have HY3 := Lib.hid (HF.out.cell hcell)
    have HDL := Lib.hid (show (b.drop 16).length = 4080 from by rw [List.length_drop, HLN.out])
    have HDR := Lib.hid (show ∀ W, FB wst W → Rd W (some ⟨bb, bo + 16, none⟩) (b.drop 16) from fun W h => ((HF.out.trans h).rd HR.out).drop 16)
    have HX4 := Lib.hid (show ((b.drop 4).take 4).length = 4 from by rw [List.length_take, List.length_drop, HLN.out]; omega)
    have HNEW := Lib.hid (fun W (h : FB wst W) => show Calls Tryd.prog 48 #[.slice (some ⟨bb, bo + 4, none⟩) 4 (c - 4)] W fun e w' => ∃ g, e = .returned (.pointer (some ⟨g, 0, none⟩)) ∧ Rdr w' W.heap.size g ((b.drop 4).take 4) 0 0 ∧ FB W w' from
      oct_New ((b.drop 4).take 4) (some ⟨bb, bo + 4, none⟩) 4 (c - 4) W HX4.out.symm (by rw [HX4.out]; omega) ((((HF.out.trans h).rd HR.out).drop 4).take 4))
    obtain ⟨wd, hwd⟩ : ∃ wd, wd = xword ((b.drop 4).take 4) := ⟨_, rfl⟩
    have HWD := Lib.hid hwd
    have HWRD := Lib.hid (fun W g base (h : Rdr W base g ((b.drop 4).take 4) 0 0) => show Calls Tryd.prog 49 #[.pointer (some ⟨g, 0, none⟩), .int .i64 4] W fun e w' => e = .returned (.int .u64 (nb wd)) ∧ TB g W w' from by
      have q := oct_RWord_ok h 4 (by omega) (by rw [HX4.out]; omega) (by rw [HX4.out]; omega)
      rw [List.drop_zero, List.take_of_length_le (by rw [HX4.out]; omega), ← HWD.out] at q
      exact q.mono (fun e w' k => ⟨k.1, k.2.2⟩))
    have hwn : IntKind.u32.wrap (nb wd) = nb nm := by rw [IntKind.wrap_u32, nb_mod32, HNM.out, HWD.out]; rfl
    have HCC := Lib.hid (And.intro hc hm)
    clear hcs hcell hy3 hnm hR hr hbb hl hwd hc hm h1
    rw [hlen] at hbe ⊢
    clear hlen
    go_enter Tryd.func47, Tryd.ntmps47
    go_upto_region 3 with fail
    rw [← hwst]
    clear hwst
    go_cut [4] from 11 to 24 (fun s4 wc => ∃ gP A' c', s4 = .pointer (some ⟨gP, 0, none⟩) ∧ Hid (wc.heap[gP]? = some (.cells #[.int .i64 (nb y3), .int .u32 (nb nm), .slice A' 4080 c'] 45 (0, 0))) ∧ Hid (Rd wc A' (b.drop 16)) ∧ Hid (4080 ≤ c') ∧ Hid (c' ≤ maxLen) ∧ Hid (FB wst wc))
    case first =>
      obtain ⟨W0, hW0⟩ : ∃ W0 : World, W0 = wst := ⟨_, rfl⟩
      rw [← hW0]
      refine region_schB (E := Below (wst.heap.size)) ([]) ([(0, true), (1, true), (2, true), (3, true), (4, true), (5, true), (10, true), (11, true)]) (.three [(6, false)] (.three [(7, false), (8, true)] (.two [(9, false)] (.two [(12, false), (13, true), (14, false), (15, false)] .leaf [(14, false), (12, false), (13, true), (15, false)] .leaf) [(14, false), (9, false), (12, false), (13, true), (15, false)] .leaf) [(9, false)] (.two [(7, false), (8, true)] (.two [(12, false), (13, true), (14, false), (15, false)] .leaf [(14, false), (12, false), (13, true), (15, false)] .leaf) [(14, false), (7, false), (8, true), (12, false), (13, true), (15, false)] .leaf) [(14, false)] (.two [(7, false), (8, true), (9, false), (12, false), (13, true), (15, false)] .leaf [(9, false), (7, false), (8, true), (12, false), (13, true), (15, false)] .leaf)) [(9, false)] (.two [(6, false)] (.two [(7, false), (8, true)] (.two [(12, false), (13, true), (14, false), (15, false)] .leaf [(14, false), (12, false), (13, true), (15, false)] .leaf) [(14, false), (7, false), (8, true), (12, false), (13, true), (15, false)] .leaf) [(14, false), (6, false), (7, false), (8, true), (12, false), (13, true), (15, false)] .leaf) [(14, false)] (.two [(6, false)] (.two [(7, false), (8, true), (9, false), (12, false), (13, true), (15, false)] .leaf [(9, false), (7, false), (8, true), (12, false), (13, true), (15, false)] .leaf) [(9, false), (6, false), (7, false), (8, true), (12, false), (13, true), (15, false)] .leaf)) ([]) (by kernel_rfl) (Below.refl _) (fun _ _ _ h k => Below.trans h k) (fun _ _ d _ _ h => by cases d <;> exact h) (by kernel_rfl) ?_
      intro ops hops0
      have hops := Lib.hid hops0
      clear hops0
      have HD : FB W0 W0.drew := (FB.refl _).drew
      generalize W0.drew = wF0 at *
      rw [hW0] at HD
      have HFB := Lib.hid (show FB wst wF0 from HD)
      clear hW0 HD
      refine sch_done ?_
      refine schB_pre ?_
      have K1 := Lib.hid (FB.cell HFB.out HY3.out)
      have HBL := Lib.hid (show bb < wst.heap.size from HBB.out)
      repeat (refine sch_take (o := ?_) (v := ?_) (a' := ?_) (at_of hops.out ?_) ?_ (fun W hW => ?_) ?_ ?_; rotate_left 3; (focus (simp only [List.getElem?_toArray, List.getElem?_cons_zero, List.getElem?_cons_succ]; rfl)); (focus (rw [hops.out]; rfl)); (focus (have u1 := bl_cell hW K1.out HBL.out; go_simp; with_reducible rfl)); (focus (simp only [Act.put, List.setIfInBounds_toArray, List.set_cons_zero, List.set_cons_succ]; rfl)))
      clear K1
      refine sch_done ?_
      refine schB_three ?_ ?_ ?_
      · skip
        (refine sch_call (o := ?_) (f := ?_) (args := ?_) (at_of hops.out ?_) ?_ ?_ ?_; rotate_left 3; (focus (simp only [List.getElem?_toArray, List.getElem?_cons_zero, List.getElem?_cons_succ]; rfl)); (focus (rw [hops.out]; rfl)); (focus (go_simp; constructor <;> with_reducible rfl)); (first | ((with_reducible refine (HNEW.out _ HFB.out).mono ?_); rintro e x1 ⟨g6, rfl, hrd, hb⟩; refine ⟨_, rfl, (Below.mono hb HFB.out.le), ?_⟩; intro a' ha'; simp only [Act.put, List.setIfInBounds_toArray, List.set_cons_zero, List.set_cons_succ] at ha'; subst ha')))
        have HRD := Lib.hid hrd
        have HG6 := Lib.hid (show wst.heap.size ≤ g6 from Nat.le_trans HFB.out.le hrd.bg)
        replace HFB := Lib.hid (HFB.out.trans hb)
        clear hb hrd
        repeat (refine sch_take (o := ?_) (v := ?_) (a' := ?_) (at_of hops.out ?_) ?_ (fun W hW => ?_) ?_ ?_; rotate_left 3; (focus (simp only [List.getElem?_toArray, List.getElem?_cons_zero, List.getElem?_cons_succ]; rfl)); (focus (rw [hops.out]; rfl)); (focus (go_simp; with_reducible rfl)); (focus (simp only [Act.put, List.setIfInBounds_toArray, List.set_cons_zero, List.set_cons_succ]; rfl)))
        refine sch_done ?_
        refine schB_three ?_ ?_ ?_
        · skip
          have HWC := Lib.hid (HWRD.out _ _ _ HRD.out)
          (refine sch_call (o := ?_) (f := ?_) (args := ?_) (at_of hops.out ?_) ?_ ?_ ?_; rotate_left 3; (focus (simp only [List.getElem?_toArray, List.getElem?_cons_zero, List.getElem?_cons_succ]; rfl)); (focus (rw [hops.out]; rfl)); (focus (go_simp; constructor <;> with_reducible rfl)); (first | ((with_reducible refine (HWC.out).mono ?_); rintro e x2 ⟨rfl, htb⟩; refine ⟨_, rfl, (tb_bl htb HG6.out HFB.out.le), ?_⟩; intro a' ha'; simp only [Act.put, List.setIfInBounds_toArray, List.set_cons_zero, List.set_cons_succ] at ha'; subst ha')))
          have hts := TS.tb (F := [g6]) htb (by simp)
          replace HFB := Lib.hid (HFB.out.ts hts (fun y hy => by have := HG6.out; simp at hy; omega))
          clear htb hts HRD HWC
          repeat (refine sch_take (o := ?_) (v := ?_) (a' := ?_) (at_of hops.out ?_) ?_ (fun W hW => ?_) ?_ ?_; rotate_left 3; (focus (simp only [List.getElem?_toArray, List.getElem?_cons_zero, List.getElem?_cons_succ]; rfl)); (focus (rw [hops.out]; rfl)); (focus (go_simp; with_reducible rfl)); (focus (simp only [Act.put, List.setIfInBounds_toArray, List.set_cons_zero, List.set_cons_succ]; rfl)))
          refine sch_done ?_
          refine schB_two ?_ ?_
          · skip
            (refine sch_run (o := ?_) (v := ?_) (a' := ?_) (w' := ?_) (at_of hops.out ?_) ?_ ?_ ?_ ?_ ?_; rotate_left 4; (focus (simp only [List.getElem?_toArray, List.getElem?_cons_zero, List.getElem?_cons_succ]; rfl)); (focus (rw [hops.out]; rfl)); (focus (go_simp; constructor <;> with_reducible rfl)); (focus (exact Below.alloc (Below.refl _ _) HFB.out.le _)); (focus (simp only [Act.put, List.setIfInBounds_toArray, List.set_cons_zero, List.set_cons_succ]; rfl)))
            have HOW := Lib.hid (show Own (x2.alloc (.cells #[] 5)) x2.heap.size (.slice (some ⟨x2.heap.size, 0, none⟩) 0 0) [] from OwnV.lit _ x2 [] (by simp))
            have HGE := Lib.hid (show wst.heap.size ≤ x2.heap.size from HFB.out.le)
            replace HFB := Lib.hid (HFB.out.alloc (.cells #[] 5))
            generalize x2.alloc _ = x3 at *
            generalize x2.heap.size = gE at *
            repeat (refine sch_take (o := ?_) (v := ?_) (a' := ?_) (at_of hops.out ?_) ?_ (fun W hW => ?_) ?_ ?_; rotate_left 3; (focus (simp only [List.getElem?_toArray, List.getElem?_cons_zero, List.getElem?_cons_succ]; rfl)); (focus (rw [hops.out]; rfl)); (focus (go_simp; with_reducible rfl)); (focus (simp only [Act.put, List.setIfInBounds_toArray, List.set_cons_zero, List.set_cons_succ]; rfl)))
            refine sch_done ?_
            refine schB_two ?_ ?_
            · skip
              (refine sch_append_bytes (o := ?_) (at_of hops.out ?_) ?_ (.tmp 20) (.tmp 22) ?_ gE _ [] HOW.out ?_ (some ⟨bb, bo + 16, none⟩) 4080 (c - 16) (b.drop 16) HDL.out.symm ?_ (HDR.out _ HFB.out) (by rw [HDL.out]; simp) (by have h1 := (OwnV.base HOW.out gE rfl).2; omega) ?_; rotate_left 1; (focus (simp only [List.getElem?_toArray, List.getElem?_cons_zero, List.getElem?_cons_succ]; rfl)); (focus (rw [hops.out]; rfl)); (focus rfl); (focus rfl); (focus rfl))
              intro v' x4 ho hgr hob
              rw [List.nil_append] at ho
              have hlo : ∀ k, (Value.slice (some ⟨gE, 0, none⟩) 0 0).ownBlock = some k → wst.heap.size ≤ k := fun k hk => by cases hk; exact HGE.out
              refine ⟨Below.grown (Below.refl _ _) hgr HFB.out.le hlo, ?_⟩
              intro a' ha'; simp only [Act.put, List.setIfInBounds_toArray, List.set_cons_zero, List.set_cons_succ] at ha'; subst ha'
              obtain ⟨A', c', rfl, h1, h2, h3, h4⟩ := Own.form ho
              rw [HDL.out] at ho h1 hob ⊢
              have HOV := Lib.hid (And.intro h3 (And.intro h1 h2))
              have HAL := Lib.hid (fun ad (ha : A' = some ad) => (h4 ad ha).2)
              replace HFB := Lib.hid (HFB.out.grown hgr hlo)
              clear ho hgr hob hlo h1 h2 h3 h4 HOW
              repeat (refine sch_take (o := ?_) (v := ?_) (a' := ?_) (at_of hops.out ?_) ?_ (fun W hW => ?_) ?_ ?_; rotate_left 3; (focus (simp only [List.getElem?_toArray, List.getElem?_cons_zero, List.getElem?_cons_succ]; rfl)); (focus (rw [hops.out]; rfl)); (focus (go_simp; with_reducible rfl)); (focus (simp only [Act.put, List.setIfInBounds_toArray, List.set_cons_zero, List.set_cons_succ]; rfl)))
              (refine sch_run (o := ?_) (v := ?_) (a' := ?_) (w' := ?_) (at_of hops.out ?_) ?_ ?_ ?_ ?_ ?_; rotate_left 4; (focus (simp only [List.getElem?_toArray, List.getElem?_cons_zero, List.getElem?_cons_succ]; rfl)); (focus (rw [hops.out]; rfl)); (focus (go_simp; constructor <;> with_reducible rfl)); (focus (exact Below.alloc (Below.refl _ _) HFB.out.le _)); (focus (simp only [Act.put, List.setIfInBounds_toArray, List.set_cons_zero, List.set_cons_succ]; rfl)))
              have HROW := Lib.hid (heap_alloc_new x4 (.cells #[.int .i64 0, .int .u32 0, .slice none 0 0] 45))
              have HGP := Lib.hid (show wst.heap.size ≤ x4.heap.size from HFB.out.le)
              have HVP := Lib.hid (fun ad (ha : A' = some ad) => show ad.block ≠ x4.heap.size from Nat.ne_of_lt (HAL.out ad ha))
              replace HOV := Lib.hid (And.intro (FB.rd ((FB.refl x4).alloc (.cells #[.int .i64 0, .int .u32 0, .slice none 0 0] 45)) HOV.out.1) HOV.out.2)
              clear HAL
              replace HFB := Lib.hid (HFB.out.alloc (.cells #[.int .i64 0, .int .u32 0, .slice none 0 0] 45))
              generalize x4.alloc _ = x5 at *
              generalize x4.heap.size = gP at *
              repeat (refine sch_take (o := ?_) (v := ?_) (a' := ?_) (at_of hops.out ?_) ?_ (fun W hW => ?_) ?_ ?_; rotate_left 3; (focus (simp only [List.getElem?_toArray, List.getElem?_cons_zero, List.getElem?_cons_succ]; rfl)); (focus (rw [hops.out]; rfl)); (focus (go_simp; with_reducible rfl)); (focus (simp only [Act.put, List.setIfInBounds_toArray, List.set_cons_zero, List.set_cons_succ]; rfl)))
              have hst := pg_store (.int .i64 (nb y3)) (.int .u32 (nb nm)) (.slice A' 4080 c') HROW.out (by simp [Value.oneCell'])
              (refine sch_storeR (o := ?_) (at_of hops.out ?_) ?_ 45 (.tmp 4) (.tmp 24) ?_ ?_ (.pointer (some ⟨gP, 0, none⟩)) (.agg #[.int .i64 (nb y3), .int .u32 (nb nm), .slice A' 4080 c']) ?_ ?_ hst (below_setRow (Below.refl _ _) HGP.out _) ?_; rotate_left 1; (focus (simp only [List.getElem?_toArray, List.getElem?_cons_zero, List.getElem?_cons_succ]; rfl)); (focus (rw [hops.out]; rfl)); (focus rfl); (focus rfl); (focus rfl); (focus rfl))
              refine sch_done ?_
              refine schB_leaf ?_
              refine sch_done ?_
              have hts := TS.tb (F := [gP]) (TB.setRow gP x5 #[.int .i64 (nb y3), .int .u32 (nb nm), .slice A' 4080 c']) (by simp)
              have HE1 := Lib.hid (setRow_heap x5 gP _ #[.int .i64 (nb y3), .int .u32 (nb nm), .slice A' 4080 c'] _ _ HROW.out)
              have HE2 := Lib.hid (hts.rd HOV.out.1 (fun ad ha hm => by simp at hm; exact HVP.out ad ha hm))
              have HE3 := Lib.hid (HFB.out.ts hts (fun y hy => by have := HGP.out; simp at hy; omega))
              clear hst hts hops
              go_wp2_with fail
              go_meet
              case rel => exact ⟨gP, A', c', rfl, HE1.out, HE2.out, HOV.out.2.1, HOV.out.2.2, HE3.out⟩
            · skip
              (refine sch_run (o := ?_) (v := ?_) (a' := ?_) (w' := ?_) (at_of hops.out ?_) ?_ ?_ ?_ ?_ ?_; rotate_left 4; (focus (simp only [List.getElem?_toArray, List.getElem?_cons_zero, List.getElem?_cons_succ]; rfl)); (focus (rw [hops.out]; rfl)); (focus (go_simp; constructor <;> with_reducible rfl)); (focus (exact Below.alloc (Below.refl _ _) HFB.out.le _)); (focus (simp only [Act.put, List.setIfInBounds_toArray, List.set_cons_zero, List.set_cons_succ]; rfl)))
              have HROW := Lib.hid (heap_alloc_new x3 (.cells #[.int .i64 0, .int .u32 0, .slice none 0 0] 45))
              have HGP := Lib.hid (show wst.heap.size ≤ x3.heap.size from HFB.out.le)
              have HPE := Lib.hid (show x3.heap.size ≠ gE from by have h1 := (OwnV.base HOW.out gE rfl).2; omega)
              replace HOW := Lib.hid (FB.own ((FB.refl x3).alloc (.cells #[.int .i64 0, .int .u32 0, .slice none 0 0] 45)) HOW.out)
              replace HFB := Lib.hid (HFB.out.alloc (.cells #[.int .i64 0, .int .u32 0, .slice none 0 0] 45))
              generalize x3.alloc _ = x6 at *
              generalize x3.heap.size = gP at *
              repeat (refine sch_take (o := ?_) (v := ?_) (a' := ?_) (at_of hops.out ?_) ?_ (fun W hW => ?_) ?_ ?_; rotate_left 3; (focus (simp only [List.getElem?_toArray, List.getElem?_cons_zero, List.getElem?_cons_succ]; rfl)); (focus (rw [hops.out]; rfl)); (focus (go_simp; with_reducible rfl)); (focus (simp only [Act.put, List.setIfInBounds_toArray, List.set_cons_zero, List.set_cons_succ]; rfl)))
              (refine sch_append_bytes (o := ?_) (at_of hops.out ?_) ?_ (.tmp 20) (.tmp 22) ?_ gE _ [] HOW.out ?_ (some ⟨bb, bo + 16, none⟩) 4080 (c - 16) (b.drop 16) HDL.out.symm ?_ (HDR.out _ HFB.out) (by rw [HDL.out]; simp) (by have h1 := (OwnV.base HOW.out gE rfl).2; omega) ?_; rotate_left 1; (focus (simp only [List.getElem?_toArray, List.getElem?_cons_zero, List.getElem?_cons_succ]; rfl)); (focus (rw [hops.out]; rfl)); (focus rfl); (focus rfl); (focus rfl))
              intro v' x7 ho hgr hob
              rw [List.nil_append] at ho
              have hlo : ∀ k, (Value.slice (some ⟨gE, 0, none⟩) 0 0).ownBlock = some k → wst.heap.size ≤ k := fun k hk => by cases hk; exact HGE.out
              refine ⟨Below.grown (Below.refl _ _) hgr HFB.out.le hlo, ?_⟩
              intro a' ha'; simp only [Act.put, List.setIfInBounds_toArray, List.set_cons_zero, List.set_cons_succ] at ha'; subst ha'
              obtain ⟨A', c', rfl, h1, h2, h3, h4⟩ := Own.form ho
              rw [HDL.out] at ho h1 hob ⊢
              have HVP := Lib.hid (fun ad (ha : A' = some ad) => show ad.block ≠ gP from by
                subst ha
                have h5 := (Array.getElem?_eq_some_iff.1 HROW.out).1
                rcases hob with e | e <;> simp [Value.ownBlock] at e <;> have := HPE.out <;> omega)
              replace HROW := Lib.hid ((hgr.block _ (Array.getElem?_eq_some_iff.1 HROW.out).1 (fun e => by cases e; exact HPE.out rfl)).trans HROW.out)
              have HOV := Lib.hid (And.intro h3 (And.intro h1 h2))
              have HAL := Lib.hid (fun ad (ha : A' = some ad) => (h4 ad ha).2)
              replace HFB := Lib.hid (HFB.out.grown hgr hlo)
              clear ho hgr hob hlo h1 h2 h3 h4 HOW
              repeat (refine sch_take (o := ?_) (v := ?_) (a' := ?_) (at_of hops.out ?_) ?_ (fun W hW => ?_) ?_ ?_; rotate_left 3; (focus (simp only [List.getElem?_toArray, List.getElem?_cons_zero, List.getElem?_cons_succ]; rfl)); (focus (rw [hops.out]; rfl)); (focus (go_simp; with_reducible rfl)); (focus (simp only [Act.put, List.setIfInBounds_toArray, List.set_cons_zero, List.set_cons_succ]; rfl)))
              have hst := pg_store (.int .i64 (nb y3)) (.int .u32 (nb nm)) (.slice A' 4080 c') HROW.out (by simp [Value.oneCell'])
              (refine sch_storeR (o := ?_) (at_of hops.out ?_) ?_ 45 (.tmp 4) (.tmp 24) ?_ ?_ (.pointer (some ⟨gP, 0, none⟩)) (.agg #[.int .i64 (nb y3), .int .u32 (nb nm), .slice A' 4080 c']) ?_ ?_ hst (below_setRow (Below.refl _ _) HGP.out _) ?_; rotate_left 1; (focus (simp only [List.getElem?_toArray, List.getElem?_cons_zero, List.getElem?_cons_succ]; rfl)); (focus (rw [hops.out]; rfl)); (focus rfl); (focus rfl); (focus rfl); (focus rfl))
              refine sch_done ?_
              refine schB_leaf ?_
              refine sch_done ?_
              have hts := TS.tb (F := [gP]) (TB.setRow gP x7 #[.int .i64 (nb y3), .int .u32 (nb nm), .slice A' 4080 c']) (by simp)
              have HE1 := Lib.hid (setRow_heap x7 gP _ #[.int .i64 (nb y3), .int .u32 (nb nm), .slice A' 4080 c'] _ _ HROW.out)
              have HE2 := Lib.hid (hts.rd HOV.out.1 (fun ad ha hm => by simp at hm; exact HVP.out ad ha hm))
              have HE3 := Lib.hid (HFB.out.ts hts (fun y hy => by have := HGP.out; simp at hy; omega))
              clear hst hts hops
              go_wp2_with fail
              go_meet
              case rel => exact ⟨gP, A', c', rfl, HE1.out, HE2.out, HOV.out.2.1, HOV.out.2.2, HE3.out⟩
          · skip
            (refine sch_run (o := ?_) (v := ?_) (a' := ?_) (w' := ?_) (at_of hops.out ?_) ?_ ?_ ?_ ?_ ?_; rotate_left 4; (focus (simp only [List.getElem?_toArray, List.getElem?_cons_zero, List.getElem?_cons_succ]; rfl)); (focus (rw [hops.out]; rfl)); (focus (go_simp; constructor <;> with_reducible rfl)); (focus (exact Below.alloc (Below.refl _ _) HFB.out.le _)); (focus (simp only [Act.put, List.setIfInBounds_toArray, List.set_cons_zero, List.set_cons_succ]; rfl)))
            have HROW := Lib.hid (heap_alloc_new x2 (.cells #[.int .i64 0, .int .u32 0, .slice none 0 0] 45))
            have HGP := Lib.hid (show wst.heap.size ≤ x2.heap.size from HFB.out.le)
            replace HFB := Lib.hid (HFB.out.alloc (.cells #[.int .i64 0, .int .u32 0, .slice none 0 0] 45))
            generalize x2.alloc _ = x8 at *
            generalize x2.heap.size = gP at *
            repeat (refine sch_take (o := ?_) (v := ?_) (a' := ?_) (at_of hops.out ?_) ?_ (fun W hW => ?_) ?_ ?_; rotate_left 3; (focus (simp only [List.getElem?_toArray, List.getElem?_cons_zero, List.getElem?_cons_succ]; rfl)); (focus (rw [hops.out]; rfl)); (focus (go_simp; with_reducible rfl)); (focus (simp only [Act.put, List.setIfInBounds_toArray, List.set_cons_zero, List.set_cons_succ]; rfl)))
            (refine sch_run (o := ?_) (v := ?_) (a' := ?_) (w' := ?_) (at_of hops.out ?_) ?_ ?_ ?_ ?_ ?_; rotate_left 4; (focus (simp only [List.getElem?_toArray, List.getElem?_cons_zero, List.getElem?_cons_succ]; rfl)); (focus (rw [hops.out]; rfl)); (focus (go_simp; constructor <;> with_reducible rfl)); (focus (exact Below.alloc (Below.refl _ _) HFB.out.le _)); (focus (simp only [Act.put, List.setIfInBounds_toArray, List.set_cons_zero, List.set_cons_succ]; rfl)))
            have HOW := Lib.hid (show Own (x8.alloc (.cells #[] 5)) x8.heap.size (.slice (some ⟨x8.heap.size, 0, none⟩) 0 0) [] from OwnV.lit _ x8 [] (by simp))
            have HGE := Lib.hid (show wst.heap.size ≤ x8.heap.size from HFB.out.le)
            have HPE := Lib.hid (show gP ≠ x8.heap.size from by have h1 := (Array.getElem?_eq_some_iff.1 HROW.out).1; omega)
            replace HROW := Lib.hid ((((FB.refl x8).alloc (.cells #[] 5)).block _ (Array.getElem?_eq_some_iff.1 HROW.out).1).trans HROW.out)
            replace HFB := Lib.hid (HFB.out.alloc (.cells #[] 5))
            generalize x8.alloc _ = x9 at *
            generalize x8.heap.size = gE at *
            repeat (refine sch_take (o := ?_) (v := ?_) (a' := ?_) (at_of hops.out ?_) ?_ (fun W hW => ?_) ?_ ?_; rotate_left 3; (focus (simp only [List.getElem?_toArray, List.getElem?_cons_zero, List.getElem?_cons_succ]; rfl)); (focus (rw [hops.out]; rfl)); (focus (go_simp; with_reducible rfl)); (focus (simp only [Act.put, List.setIfInBounds_toArray, List.set_cons_zero, List.set_cons_succ]; rfl)))
            (refine sch_append_bytes (o := ?_) (at_of hops.out ?_) ?_ (.tmp 20) (.tmp 22) ?_ gE _ [] HOW.out ?_ (some ⟨bb, bo + 16, none⟩) 4080 (c - 16) (b.drop 16) HDL.out.symm ?_ (HDR.out _ HFB.out) (by rw [HDL.out]; simp) (by have h1 := (OwnV.base HOW.out gE rfl).2; omega) ?_; rotate_left 1; (focus (simp only [List.getElem?_toArray, List.getElem?_cons_zero, List.getElem?_cons_succ]; rfl)); (focus (rw [hops.out]; rfl)); (focus rfl); (focus rfl); (focus rfl))
            intro v' x10 ho hgr hob
            rw [List.nil_append] at ho
            have hlo : ∀ k, (Value.slice (some ⟨gE, 0, none⟩) 0 0).ownBlock = some k → wst.heap.size ≤ k := fun k hk => by cases hk; exact HGE.out
            refine ⟨Below.grown (Below.refl _ _) hgr HFB.out.le hlo, ?_⟩
            intro a' ha'; simp only [Act.put, List.setIfInBounds_toArray, List.set_cons_zero, List.set_cons_succ] at ha'; subst ha'
            obtain ⟨A', c', rfl, h1, h2, h3, h4⟩ := Own.form ho
            rw [HDL.out] at ho h1 hob ⊢
            have HVP := Lib.hid (fun ad (ha : A' = some ad) => show ad.block ≠ gP from by
              subst ha
              have h5 := (Array.getElem?_eq_some_iff.1 HROW.out).1
              rcases hob with e | e <;> simp [Value.ownBlock] at e <;> have := HPE.out <;> omega)
            replace HROW := Lib.hid ((hgr.block _ (Array.getElem?_eq_some_iff.1 HROW.out).1 (fun e => by cases e; exact HPE.out rfl)).trans HROW.out)
            have HOV := Lib.hid (And.intro h3 (And.intro h1 h2))
            have HAL := Lib.hid (fun ad (ha : A' = some ad) => (h4 ad ha).2)
            replace HFB := Lib.hid (HFB.out.grown hgr hlo)
            clear ho hgr hob hlo h1 h2 h3 h4 HOW
            repeat (refine sch_take (o := ?_) (v := ?_) (a' := ?_) (at_of hops.out ?_) ?_ (fun W hW => ?_) ?_ ?_; rotate_left 3; (focus (simp only [List.getElem?_toArray, List.getElem?_cons_zero, List.getElem?_cons_succ]; rfl)); (focus (rw [hops.out]; rfl)); (focus (go_simp; with_reducible rfl)); (focus (simp only [Act.put, List.setIfInBounds_toArray, List.set_cons_zero, List.set_cons_succ]; rfl)))
            have hst := pg_store (.int .i64 (nb y3)) (.int .u32 (nb nm)) (.slice A' 4080 c') HROW.out (by simp [Value.oneCell'])
            (refine sch_storeR (o := ?_) (at_of hops.out ?_) ?_ 45 (.tmp 4) (.tmp 24) ?_ ?_ (.pointer (some ⟨gP, 0, none⟩)) (.agg #[.int .i64 (nb y3), .int .u32 (nb nm), .slice A' 4080 c']) ?_ ?_ hst (below_setRow (Below.refl _ _) HGP.out _) ?_; rotate_left 1; (focus (simp only [List.getElem?_toArray, List.getElem?_cons_zero, List.getElem?_cons_succ]; rfl)); (focus (rw [hops.out]; rfl)); (focus rfl); (focus rfl); (focus rfl); (focus rfl))
            refine sch_done ?_
            refine schB_leaf ?_
            refine sch_done ?_
            have hts := TS.tb (F := [gP]) (TB.setRow gP x10 #[.int .i64 (nb y3), .int .u32 (nb nm), .slice A' 4080 c']) (by simp)
            have HE1 := Lib.hid (setRow_heap x10 gP _ #[.int .i64 (nb y3), .int .u32 (nb nm), .slice A' 4080 c'] _ _ HROW.out)
            have HE2 := Lib.hid (hts.rd HOV.out.1 (fun ad ha hm => by simp at hm; exact HVP.out ad ha hm))
            have HE3 := Lib.hid (HFB.out.ts hts (fun y hy => by have := HGP.out; simp at hy; omega))
            clear hst hts hops
            go_wp2_with fail
            go_meet
            case rel => exact ⟨gP, A', c', rfl, HE1.out, HE2.out, HOV.out.2.1, HOV.out.2.2, HE3.out⟩
        · skip
          (refine sch_run (o := ?_) (v := ?_) (a' := ?_) (w' := ?_) (at_of hops.out ?_) ?_ ?_ ?_ ?_ ?_; rotate_left 4; (focus (simp only [List.getElem?_toArray, List.getElem?_cons_zero, List.getElem?_cons_succ]; rfl)); (focus (rw [hops.out]; rfl)); (focus (go_simp; constructor <;> with_reducible rfl)); (focus (exact Below.alloc (Below.refl _ _) HFB.out.le _)); (focus (simp only [Act.put, List.setIfInBounds_toArray, List.set_cons_zero, List.set_cons_succ]; rfl)))
          have HOW := Lib.hid (show Own (x1.alloc (.cells #[] 5)) x1.heap.size (.slice (some ⟨x1.heap.size, 0, none⟩) 0 0) [] from OwnV.lit _ x1 [] (by simp))
          have HGE := Lib.hid (show wst.heap.size ≤ x1.heap.size from HFB.out.le)
          have HEG := Lib.hid (show x1.heap.size ≠ g6 from by have h1 := HRD.out.lt; omega)
          replace HRD := Lib.hid (HRD.out.fb ((FB.refl x1).alloc (.cells #[] 5)))
          replace HFB := Lib.hid (HFB.out.alloc (.cells #[] 5))
          generalize x1.alloc _ = x11 at *
          generalize x1.heap.size = gE at *
          repeat (refine sch_take (o := ?_) (v := ?_) (a' := ?_) (at_of hops.out ?_) ?_ (fun W hW => ?_) ?_ ?_; rotate_left 3; (focus (simp only [List.getElem?_toArray, List.getElem?_cons_zero, List.getElem?_cons_succ]; rfl)); (focus (rw [hops.out]; rfl)); (focus (go_simp; with_reducible rfl)); (focus (simp only [Act.put, List.setIfInBounds_toArray, List.set_cons_zero, List.set_cons_succ]; rfl)))
          refine sch_done ?_
          refine schB_two ?_ ?_
          · skip
            have HWC := Lib.hid (HWRD.out _ _ _ HRD.out)
            (refine sch_call (o := ?_) (f := ?_) (args := ?_) (at_of hops.out ?_) ?_ ?_ ?_; rotate_left 3; (focus (simp only [List.getElem?_toArray, List.getElem?_cons_zero, List.getElem?_cons_succ]; rfl)); (focus (rw [hops.out]; rfl)); (focus (go_simp; constructor <;> with_reducible rfl)); (first | ((with_reducible refine (HWC.out).mono ?_); rintro e x12 ⟨rfl, htb⟩; refine ⟨_, rfl, (tb_bl htb HG6.out HFB.out.le), ?_⟩; intro a' ha'; simp only [Act.put, List.setIfInBounds_toArray, List.set_cons_zero, List.set_cons_succ] at ha'; subst ha')))
            have hts := TS.tb (F := [g6]) htb (by simp)
            replace HOW := Lib.hid (hts.ownV HOW.out (fun k hk hm => by cases hk; simp at hm; exact HEG.out hm))
            replace HFB := Lib.hid (HFB.out.ts hts (fun y hy => by have := HG6.out; simp at hy; omega))
            clear htb hts HRD HWC
            repeat (refine sch_take (o := ?_) (v := ?_) (a' := ?_) (at_of hops.out ?_) ?_ (fun W hW => ?_) ?_ ?_; rotate_left 3; (focus (simp only [List.getElem?_toArray, List.getElem?_cons_zero, List.getElem?_cons_succ]; rfl)); (focus (rw [hops.out]; rfl)); (focus (go_simp; with_reducible rfl)); (focus (simp only [Act.put, List.setIfInBounds_toArray, List.set_cons_zero, List.set_cons_succ]; rfl)))
            refine sch_done ?_
            refine schB_two ?_ ?_
            · skip
              (refine sch_append_bytes (o := ?_) (at_of hops.out ?_) ?_ (.tmp 20) (.tmp 22) ?_ gE _ [] HOW.out ?_ (some ⟨bb, bo + 16, none⟩) 4080 (c - 16) (b.drop 16) HDL.out.symm ?_ (HDR.out _ HFB.out) (by rw [HDL.out]; simp) (by have h1 := (OwnV.base HOW.out gE rfl).2; omega) ?_; rotate_left 1; (focus (simp only [List.getElem?_toArray, List.getElem?_cons_zero, List.getElem?_cons_succ]; rfl)); (focus (rw [hops.out]; rfl)); (focus rfl); (focus rfl); (focus rfl))
              intro v' x13 ho hgr hob
              rw [List.nil_append] at ho
              have hlo : ∀ k, (Value.slice (some ⟨gE, 0, none⟩) 0 0).ownBlock = some k → wst.heap.size ≤ k := fun k hk => by cases hk; exact HGE.out
              refine ⟨Below.grown (Below.refl _ _) hgr HFB.out.le hlo, ?_⟩
              intro a' ha'; simp only [Act.put, List.setIfInBounds_toArray, List.set_cons_zero, List.set_cons_succ] at ha'; subst ha'
              obtain ⟨A', c', rfl, h1, h2, h3, h4⟩ := Own.form ho
              rw [HDL.out] at ho h1 hob ⊢
              have HOV := Lib.hid (And.intro h3 (And.intro h1 h2))
              have HAL := Lib.hid (fun ad (ha : A' = some ad) => (h4 ad ha).2)
              replace HFB := Lib.hid (HFB.out.grown hgr hlo)
              clear ho hgr hob hlo h1 h2 h3 h4 HOW
              repeat (refine sch_take (o := ?_) (v := ?_) (a' := ?_) (at_of hops.out ?_) ?_ (fun W hW => ?_) ?_ ?_; rotate_left 3; (focus (simp only [List.getElem?_toArray, List.getElem?_cons_zero, List.getElem?_cons_succ]; rfl)); (focus (rw [hops.out]; rfl)); (focus (go_simp; with_reducible rfl)); (focus (simp only [Act.put, List.setIfInBounds_toArray, List.set_cons_zero, List.set_cons_succ]; rfl)))
              (refine sch_run (o := ?_) (v := ?_) (a' := ?_) (w' := ?_) (at_of hops.out ?_) ?_ ?_ ?_ ?_ ?_; rotate_left 4; (focus (simp only [List.getElem?_toArray, List.getElem?_cons_zero, List.getElem?_cons_succ]; rfl)); (focus (rw [hops.out]; rfl)); (focus (go_simp; constructor <;> with_reducible rfl)); (focus (exact Below.alloc (Below.refl _ _) HFB.out.le _)); (focus (simp only [Act.put, List.setIfInBounds_toArray, List.set_cons_zero, List.set_cons_succ]; rfl)))
              have HROW := Lib.hid (heap_alloc_new x13 (.cells #[.int .i64 0, .int .u32 0, .slice none 0 0] 45))
              have HGP := Lib.hid (show wst.heap.size ≤ x13.heap.size from HFB.out.le)
              have HVP := Lib.hid (fun ad (ha : A' = some ad) => show ad.block ≠ x13.heap.size from Nat.ne_of_lt (HAL.out ad ha))
              replace HOV := Lib.hid (And.intro (FB.rd ((FB.refl x13).alloc (.cells #[.int .i64 0, .int .u32 0, .slice none 0 0] 45)) HOV.out.1) HOV.out.2)
              clear HAL
              replace HFB := Lib.hid (HFB.out.alloc (.cells #[.int .i64 0, .int .u32 0, .slice none 0 0] 45))
              generalize x13.alloc _ = x14 at *
              generalize x13.heap.size = gP at *
              repeat (refine sch_take (o := ?_) (v := ?_) (a' := ?_) (at_of hops.out ?_) ?_ (fun W hW => ?_) ?_ ?_; rotate_left 3; (focus (simp only [List.getElem?_toArray, List.getElem?_cons_zero, List.getElem?_cons_succ]; rfl)); (focus (rw [hops.out]; rfl)); (focus (go_simp; with_reducible rfl)); (focus (simp only [Act.put, List.setIfInBounds_toArray, List.set_cons_zero, List.set_cons_succ]; rfl)))
              have hst := pg_store (.int .i64 (nb y3)) (.int .u32 (nb nm)) (.slice A' 4080 c') HROW.out (by simp [Value.oneCell'])
              (refine sch_storeR (o := ?_) (at_of hops.out ?_) ?_ 45 (.tmp 4) (.tmp 24) ?_ ?_ (.pointer (some ⟨gP, 0, none⟩)) (.agg #[.int .i64 (nb y3), .int .u32 (nb nm), .slice A' 4080 c']) ?_ ?_ hst (below_setRow (Below.refl _ _) HGP.out _) ?_; rotate_left 1; (focus (simp only [List.getElem?_toArray, List.getElem?_cons_zero, List.getElem?_cons_succ]; rfl)); (focus (rw [hops.out]; rfl)); (focus rfl); (focus rfl); (focus rfl); (focus rfl))
              refine sch_done ?_
              refine schB_leaf ?_
              refine sch_done ?_
              have hts := TS.tb (F := [gP]) (TB.setRow gP x14 #[.int .i64 (nb y3), .int .u32 (nb nm), .slice A' 4080 c']) (by simp)
              have HE1 := Lib.hid (setRow_heap x14 gP _ #[.int .i64 (nb y3), .int .u32 (nb nm), .slice A' 4080 c'] _ _ HROW.out)
              have HE2 := Lib.hid (hts.rd HOV.out.1 (fun ad ha hm => by simp at hm; exact HVP.out ad ha hm))
              have HE3 := Lib.hid (HFB.out.ts hts (fun y hy => by have := HGP.out; simp at hy; omega))
              clear hst hts hops
              go_wp2_with fail
              go_meet
              case rel => exact ⟨gP, A', c', rfl, HE1.out, HE2.out, HOV.out.2.1, HOV.out.2.2, HE3.out⟩
            · skip
              (refine sch_run (o := ?_) (v := ?_) (a' := ?_) (w' := ?_) (at_of hops.out ?_) ?_ ?_ ?_ ?_ ?_; rotate_left 4; (focus (simp only [List.getElem?_toArray, List.getElem?_cons_zero, List.getElem?_cons_succ]; rfl)); (focus (rw [hops.out]; rfl)); (focus (go_simp; constructor <;> with_reducible rfl)); (focus (exact Below.alloc (Below.refl _ _) HFB.out.le _)); (focus (simp only [Act.put, List.setIfInBounds_toArray, List.set_cons_zero, List.set_cons_succ]; rfl)))
              have HROW := Lib.hid (heap_alloc_new x12 (.cells #[.int .i64 0, .int .u32 0, .slice none 0 0] 45))
              have HGP := Lib.hid (show wst.heap.size ≤ x12.heap.size from HFB.out.le)
              have HPE := Lib.hid (show x12.heap.size ≠ gE from by have h1 := (OwnV.base HOW.out gE rfl).2; omega)
              replace HOW := Lib.hid (FB.own ((FB.refl x12).alloc (.cells #[.int .i64 0, .int .u32 0, .slice none 0 0] 45)) HOW.out)
              replace HFB := Lib.hid (HFB.out.alloc (.cells #[.int .i64 0, .int .u32 0, .slice none 0 0] 45))
              generalize x12.alloc _ = x15 at *
              generalize x12.heap.size = gP at *
              repeat (refine sch_take (o := ?_) (v := ?_) (a' := ?_) (at_of hops.out ?_) ?_ (fun W hW => ?_) ?_ ?_; rotate_left 3; (focus (simp only [List.getElem?_toArray, List.getElem?_cons_zero, List.getElem?_cons_succ]; rfl)); (focus (rw [hops.out]; rfl)); (focus (go_simp; with_reducible rfl)); (focus (simp only [Act.put, List.setIfInBounds_toArray, List.set_cons_zero, List.set_cons_succ]; rfl)))
              (refine sch_append_bytes (o := ?_) (at_of hops.out ?_) ?_ (.tmp 20) (.tmp 22) ?_ gE _ [] HOW.out ?_ (some ⟨bb, bo + 16, none⟩) 4080 (c - 16) (b.drop 16) HDL.out.symm ?_ (HDR.out _ HFB.out) (by rw [HDL.out]; simp) (by have h1 := (OwnV.base HOW.out gE rfl).2; omega) ?_; rotate_left 1; (focus (simp only [List.getElem?_toArray, List.getElem?_cons_zero, List.getElem?_cons_succ]; rfl)); (focus (rw [hops.out]; rfl)); (focus rfl); (focus rfl); (focus rfl))
              intro v' x16 ho hgr hob
              rw [List.nil_append] at ho
              have hlo : ∀ k, (Value.slice (some ⟨gE, 0, none⟩) 0 0).ownBlock = some k → wst.heap.size ≤ k := fun k hk => by cases hk; exact HGE.out
              refine ⟨Below.grown (Below.refl _ _) hgr HFB.out.le hlo, ?_⟩
              intro a' ha'; simp only [Act.put, List.setIfInBounds_toArray, List.set_cons_zero, List.set_cons_succ] at ha'; subst ha'
              obtain ⟨A', c', rfl, h1, h2, h3, h4⟩ := Own.form ho
              rw [HDL.out] at ho h1 hob ⊢
              have HVP := Lib.hid (fun ad (ha : A' = some ad) => show ad.block ≠ gP from by
                subst ha
                have h5 := (Array.getElem?_eq_some_iff.1 HROW.out).1
                rcases hob with e | e <;> simp [Value.ownBlock] at e <;> have := HPE.out <;> omega)
              replace HROW := Lib.hid ((hgr.block _ (Array.getElem?_eq_some_iff.1 HROW.out).1 (fun e => by cases e; exact HPE.out rfl)).trans HROW.out)
              have HOV := Lib.hid (And.intro h3 (And.intro h1 h2))
              have HAL := Lib.hid (fun ad (ha : A' = some ad) => (h4 ad ha).2)
              replace HFB := Lib.hid (HFB.out.grown hgr hlo)
              clear ho hgr hob hlo h1 h2 h3 h4 HOW
              repeat (refine sch_take (o := ?_) (v := ?_) (a' := ?_) (at_of hops.out ?_) ?_ (fun W hW => ?_) ?_ ?_; rotate_left 3; (focus (simp only [List.getElem?_toArray, List.getElem?_cons_zero, List.getElem?_cons_succ]; rfl)); (focus (rw [hops.out]; rfl)); (focus (go_simp; with_reducible rfl)); (focus (simp only [Act.put, List.setIfInBounds_toArray, List.set_cons_zero, List.set_cons_succ]; rfl)))
              have hst := pg_store (.int .i64 (nb y3)) (.int .u32 (nb nm)) (.slice A' 4080 c') HROW.out (by simp [Value.oneCell'])
              (refine sch_storeR (o := ?_) (at_of hops.out ?_) ?_ 45 (.tmp 4) (.tmp 24) ?_ ?_ (.pointer (some ⟨gP, 0, none⟩)) (.agg #[.int .i64 (nb y3), .int .u32 (nb nm), .slice A' 4080 c']) ?_ ?_ hst (below_setRow (Below.refl _ _) HGP.out _) ?_; rotate_left 1; (focus (simp only [List.getElem?_toArray, List.getElem?_cons_zero, List.getElem?_cons_succ]; rfl)); (focus (rw [hops.out]; rfl)); (focus rfl); (focus rfl); (focus rfl); (focus rfl))
              refine sch_done ?_
              refine schB_leaf ?_
              refine sch_done ?_
              have hts := TS.tb (F := [gP]) (TB.setRow gP x16 #[.int .i64 (nb y3), .int .u32 (nb nm), .slice A' 4080 c']) (by simp)
              have HE1 := Lib.hid (setRow_heap x16 gP _ #[.int .i64 (nb y3), .int .u32 (nb nm), .slice A' 4080 c'] _ _ HROW.out)
              have HE2 := Lib.hid (hts.rd HOV.out.1 (fun ad ha hm => by simp at hm; exact HVP.out ad ha hm))
              have HE3 := Lib.hid (HFB.out.ts hts (fun y hy => by have := HGP.out; simp at hy; omega))
              clear hst hts hops
              go_wp2_with fail
              go_meet
              case rel => exact ⟨gP, A', c', rfl, HE1.out, HE2.out, HOV.out.2.1, HOV.out.2.2, HE3.out⟩
          · skip
            (refine sch_run (o := ?_) (v := ?_) (a' := ?_) (w' := ?_) (at_of hops.out ?_) ?_ ?_ ?_ ?_ ?_; rotate_left 4; (focus (simp only [List.getElem?_toArray, List.getElem?_cons_zero, List.getElem?_cons_succ]; rfl)); (focus (rw [hops.out]; rfl)); (focus (go_simp; constructor <;> with_reducible rfl)); (focus (exact Below.alloc (Below.refl _ _) HFB.out.le _)); (focus (simp only [Act.put, List.setIfInBounds_toArray, List.set_cons_zero, List.set_cons_succ]; rfl)))
            have HROW := Lib.hid (heap_alloc_new x11 (.cells #[.int .i64 0, .int .u32 0, .slice none 0 0] 45))
            have HGP := Lib.hid (show wst.heap.size ≤ x11.heap.size from HFB.out.le)
            have HPG := Lib.hid (show x11.heap.size ≠ g6 from by have h1 := HRD.out.lt; omega)
            replace HRD := Lib.hid (HRD.out.fb ((FB.refl x11).alloc (.cells #[.int .i64 0, .int .u32 0, .slice none 0 0] 45)))
            have HPE := Lib.hid (show x11.heap.size ≠ gE from by have h1 := (OwnV.base HOW.out gE rfl).2; omega)
            replace HOW := Lib.hid (FB.own ((FB.refl x11).alloc (.cells #[.int .i64 0, .int .u32 0, .slice none 0 0] 45)) HOW.out)
            replace HFB := Lib.hid (HFB.out.alloc (.cells #[.int .i64 0, .int .u32 0, .slice none 0 0] 45))
            generalize x11.alloc _ = x17 at *
            generalize x11.heap.size = gP at *
            repeat (refine sch_take (o := ?_) (v := ?_) (a' := ?_) (at_of hops.out ?_) ?_ (fun W hW => ?_) ?_ ?_; rotate_left 3; (focus (simp only [List.getElem?_toArray, List.getElem?_cons_zero, List.getElem?_cons_succ]; rfl)); (focus (rw [hops.out]; rfl)); (focus (go_simp; with_reducible rfl)); (focus (simp only [Act.put, List.setIfInBounds_toArray, List.set_cons_zero, List.set_cons_succ]; rfl)))
            have HWC := Lib.hid (HWRD.out _ _ _ HRD.out)
            (refine sch_call (o := ?_) (f := ?_) (args := ?_) (at_of hops.out ?_) ?_ ?_ ?_; rotate_left 3; (focus (simp only [List.getElem?_toArray, List.getElem?_cons_zero, List.getElem?_cons_succ]; rfl)); (focus (rw [hops.out]; rfl)); (focus (go_simp; constructor <;> with_reducible rfl)); (first | ((with_reducible refine (HWC.out).mono ?_); rintro e x18 ⟨rfl, htb⟩; refine ⟨_, rfl, (tb_bl htb HG6.out HFB.out.le), ?_⟩; intro a' ha'; simp only [Act.put, List.setIfInBounds_toArray, List.set_cons_zero, List.set_cons_succ] at ha'; subst ha')))
            have hts := TS.tb (F := [g6]) htb (by simp)
            replace HOW := Lib.hid (hts.ownV HOW.out (fun k hk hm => by cases hk; simp at hm; exact HEG.out hm))
            replace HROW := Lib.hid ((hts.block _ (Array.getElem?_eq_some_iff.1 HROW.out).1 (by simpa using HPG.out)).trans HROW.out)
            replace HFB := Lib.hid (HFB.out.ts hts (fun y hy => by have := HG6.out; simp at hy; omega))
            clear htb hts HRD HWC
            repeat (refine sch_take (o := ?_) (v := ?_) (a' := ?_) (at_of hops.out ?_) ?_ (fun W hW => ?_) ?_ ?_; rotate_left 3; (focus (simp only [List.getElem?_toArray, List.getElem?_cons_zero, List.getElem?_cons_succ]; rfl)); (focus (rw [hops.out]; rfl)); (focus (go_simp; with_reducible rfl)); (focus (simp only [Act.put, List.setIfInBounds_toArray, List.set_cons_zero, List.set_cons_succ]; rfl)))
            (refine sch_append_bytes (o := ?_) (at_of hops.out ?_) ?_ (.tmp 20) (.tmp 22) ?_ gE _ [] HOW.out ?_ (some ⟨bb, bo + 16, none⟩) 4080 (c - 16) (b.drop 16) HDL.out.symm ?_ (HDR.out _ HFB.out) (by rw [HDL.out]; simp) (by have h1 := (OwnV.base HOW.out gE rfl).2; omega) ?_; rotate_left 1; (focus (simp only [List.getElem?_toArray, List.getElem?_cons_zero, List.getElem?_cons_succ]; rfl)); (focus (rw [hops.out]; rfl)); (focus rfl); (focus rfl); (focus rfl))
            intro v' x19 ho hgr hob
            rw [List.nil_append] at ho
            have hlo : ∀ k, (Value.slice (some ⟨gE, 0, none⟩) 0 0).ownBlock = some k → wst.heap.size ≤ k := fun k hk => by cases hk; exact HGE.out
            refine ⟨Below.grown (Below.refl _ _) hgr HFB.out.le hlo, ?_⟩
            intro a' ha'; simp only [Act.put, List.setIfInBounds_toArray, List.set_cons_zero, List.set_cons_succ] at ha'; subst ha'
            obtain ⟨A', c', rfl, h1, h2, h3, h4⟩ := Own.form ho
            rw [HDL.out] at ho h1 hob ⊢
            have HVP := Lib.hid (fun ad (ha : A' = some ad) => show ad.block ≠ gP from by
              subst ha
              have h5 := (Array.getElem?_eq_some_iff.1 HROW.out).1
              rcases hob with e | e <;> simp [Value.ownBlock] at e <;> have := HPE.out <;> omega)
            replace HROW := Lib.hid ((hgr.block _ (Array.getElem?_eq_some_iff.1 HROW.out).1 (fun e => by cases e; exact HPE.out rfl)).trans HROW.out)
            have HOV := Lib.hid (And.intro h3 (And.intro h1 h2))
            have HAL := Lib.hid (fun ad (ha : A' = some ad) => (h4 ad ha).2)
            replace HFB := Lib.hid (HFB.out.grown hgr hlo)
            clear ho hgr hob hlo h1 h2 h3 h4 HOW
            repeat (refine sch_take (o := ?_) (v := ?_) (a' := ?_) (at_of hops.out ?_) ?_ (fun W hW => ?_) ?_ ?_; rotate_left 3; (focus (simp only [List.getElem?_toArray, List.getElem?_cons_zero, List.getElem?_cons_succ]; rfl)); (focus (rw [hops.out]; rfl)); (focus (go_simp; with_reducible rfl)); (focus (simp only [Act.put, List.setIfInBounds_toArray, List.set_cons_zero, List.set_cons_succ]; rfl)))
            have hst := pg_store (.int .i64 (nb y3)) (.int .u32 (nb nm)) (.slice A' 4080 c') HROW.out (by simp [Value.oneCell'])
            (refine sch_storeR (o := ?_) (at_of hops.out ?_) ?_ 45 (.tmp 4) (.tmp 24) ?_ ?_ (.pointer (some ⟨gP, 0, none⟩)) (.agg #[.int .i64 (nb y3), .int .u32 (nb nm), .slice A' 4080 c']) ?_ ?_ hst (below_setRow (Below.refl _ _) HGP.out _) ?_; rotate_left 1; (focus (simp only [List.getElem?_toArray, List.getElem?_cons_zero, List.getElem?_cons_succ]; rfl)); (focus (rw [hops.out]; rfl)); (focus rfl); (focus rfl); (focus rfl); (focus rfl))
            refine sch_done ?_
            refine schB_leaf ?_
            refine sch_done ?_
            have hts := TS.tb (F := [gP]) (TB.setRow gP x19 #[.int .i64 (nb y3), .int .u32 (nb nm), .slice A' 4080 c']) (by simp)
            have HE1 := Lib.hid (setRow_heap x19 gP _ #[.int .i64 (nb y3), .int .u32 (nb nm), .slice A' 4080 c'] _ _ HROW.out)
            have HE2 := Lib.hid (hts.rd HOV.out.1 (fun ad ha hm => by simp at hm; exact HVP.out ad ha hm))
            have HE3 := Lib.hid (HFB.out.ts hts (fun y hy => by have := HGP.out; simp at hy; omega))
            clear hst hts hops
            go_wp2_with fail
            go_meet
            case rel => exact ⟨gP, A', c', rfl, HE1.out, HE2.out, HOV.out.2.1, HOV.out.2.2, HE3.out⟩
        · skip
          (refine sch_run (o := ?_) (v := ?_) (a' := ?_) (w' := ?_) (at_of hops.out ?_) ?_ ?_ ?_ ?_ ?_; rotate_left 4; (focus (simp only [List.getElem?_toArray, List.getElem?_cons_zero, List.getElem?_cons_succ]; rfl)); (focus (rw [hops.out]; rfl)); (focus (go_simp; constructor <;> with_reducible rfl)); (focus (exact Below.alloc (Below.refl _ _) HFB.out.le _)); (focus (simp only [Act.put, List.setIfInBounds_toArray, List.set_cons_zero, List.set_cons_succ]; rfl)))
          have HROW := Lib.hid (heap_alloc_new x1 (.cells #[.int .i64 0, .int .u32 0, .slice none 0 0] 45))
          have HGP := Lib.hid (show wst.heap.size ≤ x1.heap.size from HFB.out.le)
          have HPG := Lib.hid (show x1.heap.size ≠ g6 from by have h1 := HRD.out.lt; omega)
          replace HRD := Lib.hid (HRD.out.fb ((FB.refl x1).alloc (.cells #[.int .i64 0, .int .u32 0, .slice none 0 0] 45)))
          replace HFB := Lib.hid (HFB.out.alloc (.cells #[.int .i64 0, .int .u32 0, .slice none 0 0] 45))
          generalize x1.alloc _ = x20 at *
          generalize x1.heap.size = gP at *
          repeat (refine sch_take (o := ?_) (v := ?_) (a' := ?_) (at_of hops.out ?_) ?_ (fun W hW => ?_) ?_ ?_; rotate_left 3; (focus (simp only [List.getElem?_toArray, List.getElem?_cons_zero, List.getElem?_cons_succ]; rfl)); (focus (rw [hops.out]; rfl)); (focus (go_simp; with_reducible rfl)); (focus (simp only [Act.put, List.setIfInBounds_toArray, List.set_cons_zero, List.set_cons_succ]; rfl)))
          refine sch_done ?_
          refine schB_two ?_ ?_
          · skip
            have HWC := Lib.hid (HWRD.out _ _ _ HRD.out)
            (refine sch_call (o := ?_) (f := ?_) (args := ?_) (at_of hops.out ?_) ?_ ?_ ?_; rotate_left 3; (focus (simp only [List.getElem?_toArray, List.getElem?_cons_zero, List.getElem?_cons_succ]; rfl)); (focus (rw [hops.out]; rfl)); (focus (go_simp; constructor <;> with_reducible rfl)); (first | ((with_reducible refine (HWC.out).mono ?_); rintro e x21 ⟨rfl, htb⟩; refine ⟨_, rfl, (tb_bl htb HG6.out HFB.out.le), ?_⟩; intro a' ha'; simp only [Act.put, List.setIfInBounds_toArray, List.set_cons_zero, List.set_cons_succ] at ha'; subst ha')))
            have hts := TS.tb (F := [g6]) htb (by simp)
            replace HROW := Lib.hid ((hts.block _ (Array.getElem?_eq_some_iff.1 HROW.out).1 (by simpa using HPG.out)).trans HROW.out)
            replace HFB := Lib.hid (HFB.out.ts hts (fun y hy => by have := HG6.out; simp at hy; omega))
            clear htb hts HRD HWC
            repeat (refine sch_take (o := ?_) (v := ?_) (a' := ?_) (at_of hops.out ?_) ?_ (fun W hW => ?_) ?_ ?_; rotate_left 3; (focus (simp only [List.getElem?_toArray, List.getElem?_cons_zero, List.getElem?_cons_succ]; rfl)); (focus (rw [hops.out]; rfl)); (focus (go_simp; with_reducible rfl)); (focus (simp only [Act.put, List.setIfInBounds_toArray, List.set_cons_zero, List.set_cons_succ]; rfl)))
            (refine sch_run (o := ?_) (v := ?_) (a' := ?_) (w' := ?_) (at_of hops.out ?_) ?_ ?_ ?_ ?_ ?_; rotate_left 4; (focus (simp only [List.getElem?_toArray, List.getElem?_cons_zero, List.getElem?_cons_succ]; rfl)); (focus (rw [hops.out]; rfl)); (focus (go_simp; constructor <;> with_reducible rfl)); (focus (exact Below.alloc (Below.refl _ _) HFB.out.le _)); (focus (simp only [Act.put, List.setIfInBounds_toArray, List.set_cons_zero, List.set_cons_succ]; rfl)))
            have HOW := Lib.hid (show Own (x21.alloc (.cells #[] 5)) x21.heap.size (.slice (some ⟨x21.heap.size, 0, none⟩) 0 0) [] from OwnV.lit _ x21 [] (by simp))
            have HGE := Lib.hid (show wst.heap.size ≤ x21.heap.size from HFB.out.le)
            have HPE := Lib.hid (show gP ≠ x21.heap.size from by have h1 := (Array.getElem?_eq_some_iff.1 HROW.out).1; omega)
            replace HROW := Lib.hid ((((FB.refl x21).alloc (.cells #[] 5)).block _ (Array.getElem?_eq_some_iff.1 HROW.out).1).trans HROW.out)
            replace HFB := Lib.hid (HFB.out.alloc (.cells #[] 5))
            generalize x21.alloc _ = x22 at *
            generalize x21.heap.size = gE at *
            repeat (refine sch_take (o := ?_) (v := ?_) (a' := ?_) (at_of hops.out ?_) ?_ (fun W hW => ?_) ?_ ?_; rotate_left 3; (focus (simp only [List.getElem?_toArray, List.getElem?_cons_zero, List.getElem?_cons_succ]; rfl)); (focus (rw [hops.out]; rfl)); (focus (go_simp; with_reducible rfl)); (focus (simp only [Act.put, List.setIfInBounds_toArray, List.set_cons_zero, List.set_cons_succ]; rfl)))
            (refine sch_append_bytes (o := ?_) (at_of hops.out ?_) ?_ (.tmp 20) (.tmp 22) ?_ gE _ [] HOW.out ?_ (some ⟨bb, bo + 16, none⟩) 4080 (c - 16) (b.drop 16) HDL.out.symm ?_ (HDR.out _ HFB.out) (by rw [HDL.out]; simp) (by have h1 := (OwnV.base HOW.out gE rfl).2; omega) ?_; rotate_left 1; (focus (simp only [List.getElem?_toArray, List.getElem?_cons_zero, List.getElem?_cons_succ]; rfl)); (focus (rw [hops.out]; rfl)); (focus rfl); (focus rfl); (focus rfl))
            intro v' x23 ho hgr hob
            rw [List.nil_append] at ho
            have hlo : ∀ k, (Value.slice (some ⟨gE, 0, none⟩) 0 0).ownBlock = some k → wst.heap.size ≤ k := fun k hk => by cases hk; exact HGE.out
            refine ⟨Below.grown (Below.refl _ _) hgr HFB.out.le hlo, ?_⟩
            intro a' ha'; simp only [Act.put, List.setIfInBounds_toArray, List.set_cons_zero, List.set_cons_succ] at ha'; subst ha'
            obtain ⟨A', c', rfl, h1, h2, h3, h4⟩ := Own.form ho
            rw [HDL.out] at ho h1 hob ⊢
            have HVP := Lib.hid (fun ad (ha : A' = some ad) => show ad.block ≠ gP from by
              subst ha
              have h5 := (Array.getElem?_eq_some_iff.1 HROW.out).1
              rcases hob with e | e <;> simp [Value.ownBlock] at e <;> have := HPE.out <;> omega)
            replace HROW := Lib.hid ((hgr.block _ (Array.getElem?_eq_some_iff.1 HROW.out).1 (fun e => by cases e; exact HPE.out rfl)).trans HROW.out)
            have HOV := Lib.hid (And.intro h3 (And.intro h1 h2))
            have HAL := Lib.hid (fun ad (ha : A' = some ad) => (h4 ad ha).2)
            replace HFB := Lib.hid (HFB.out.grown hgr hlo)
            clear ho hgr hob hlo h1 h2 h3 h4 HOW
            repeat (refine sch_take (o := ?_) (v := ?_) (a' := ?_) (at_of hops.out ?_) ?_ (fun W hW => ?_) ?_ ?_; rotate_left 3; (focus (simp only [List.getElem?_toArray, List.getElem?_cons_zero, List.getElem?_cons_succ]; rfl)); (focus (rw [hops.out]; rfl)); (focus (go_simp; with_reducible rfl)); (focus (simp only [Act.put, List.setIfInBounds_toArray, List.set_cons_zero, List.set_cons_succ]; rfl)))
            have hst := pg_store (.int .i64 (nb y3)) (.int .u32 (nb nm)) (.slice A' 4080 c') HROW.out (by simp [Value.oneCell'])
            (refine sch_storeR (o := ?_) (at_of hops.out ?_) ?_ 45 (.tmp 4) (.tmp 24) ?_ ?_ (.pointer (some ⟨gP, 0, none⟩)) (.agg #[.int .i64 (nb y3), .int .u32 (nb nm), .slice A' 4080 c']) ?_ ?_ hst (below_setRow (Below.refl _ _) HGP.out _) ?_; rotate_left 1; (focus (simp only [List.getElem?_toArray, List.getElem?_cons_zero, List.getElem?_cons_succ]; rfl)); (focus (rw [hops.out]; rfl)); (focus rfl); (focus rfl); (focus rfl); (focus rfl))
            refine sch_done ?_
            refine schB_leaf ?_
            refine sch_done ?_
            have hts := TS.tb (F := [gP]) (TB.setRow gP x23 #[.int .i64 (nb y3), .int .u32 (nb nm), .slice A' 4080 c']) (by simp)
            have HE1 := Lib.hid (setRow_heap x23 gP _ #[.int .i64 (nb y3), .int .u32 (nb nm), .slice A' 4080 c'] _ _ HROW.out)
            have HE2 := Lib.hid (hts.rd HOV.out.1 (fun ad ha hm => by simp at hm; exact HVP.out ad ha hm))
            have HE3 := Lib.hid (HFB.out.ts hts (fun y hy => by have := HGP.out; simp at hy; omega))
            clear hst hts hops
            go_wp2_with fail
            go_meet
            case rel => exact ⟨gP, A', c', rfl, HE1.out, HE2.out, HOV.out.2.1, HOV.out.2.2, HE3.out⟩
          · skip
            (refine sch_run (o := ?_) (v := ?_) (a' := ?_) (w' := ?_) (at_of hops.out ?_) ?_ ?_ ?_ ?_ ?_; rotate_left 4; (focus (simp only [List.getElem?_toArray, List.getElem?_cons_zero, List.getElem?_cons_succ]; rfl)); (focus (rw [hops.out]; rfl)); (focus (go_simp; constructor <;> with_reducible rfl)); (focus (exact Below.alloc (Below.refl _ _) HFB.out.le _)); (focus (simp only [Act.put, List.setIfInBounds_toArray, List.set_cons_zero, List.set_cons_succ]; rfl)))
            have HOW := Lib.hid (show Own (x20.alloc (.cells #[] 5)) x20.heap.size (.slice (some ⟨x20.heap.size, 0, none⟩) 0 0) [] from OwnV.lit _ x20 [] (by simp))
            have HGE := Lib.hid (show wst.heap.size ≤ x20.heap.size from HFB.out.le)
            have HEG := Lib.hid (show x20.heap.size ≠ g6 from by have h1 := HRD.out.lt; omega)
            replace HRD := Lib.hid (HRD.out.fb ((FB.refl x20).alloc (.cells #[] 5)))
            have HPE := Lib.hid (show gP ≠ x20.heap.size from by have h1 := (Array.getElem?_eq_some_iff.1 HROW.out).1; omega)
            replace HROW := Lib.hid ((((FB.refl x20).alloc (.cells #[] 5)).block _ (Array.getElem?_eq_some_iff.1 HROW.out).1).trans HROW.out)
            replace HFB := Lib.hid (HFB.out.alloc (.cells #[] 5))
            generalize x20.alloc _ = x24 at *
            generalize x20.heap.size = gE at *
            repeat (refine sch_take (o := ?_) (v := ?_) (a' := ?_) (at_of hops.out ?_) ?_ (fun W hW => ?_) ?_ ?_; rotate_left 3; (focus (simp only [List.getElem?_toArray, List.getElem?_cons_zero, List.getElem?_cons_succ]; rfl)); (focus (rw [hops.out]; rfl)); (focus (go_simp; with_reducible rfl)); (focus (simp only [Act.put, List.setIfInBounds_toArray, List.set_cons_zero, List.set_cons_succ]; rfl)))
            have HWC := Lib.hid (HWRD.out _ _ _ HRD.out)
            (refine sch_call (o := ?_) (f := ?_) (args := ?_) (at_of hops.out ?_) ?_ ?_ ?_; rotate_left 3; (focus (simp only [List.getElem?_toArray, List.getElem?_cons_zero, List.getElem?_cons_succ]; rfl)); (focus (rw [hops.out]; rfl)); (focus (go_simp; constructor <;> with_reducible rfl)); (first | ((with_reducible refine (HWC.out).mono ?_); rintro e x25 ⟨rfl, htb⟩; refine ⟨_, rfl, (tb_bl htb HG6.out HFB.out.le), ?_⟩; intro a' ha'; simp only [Act.put, List.setIfInBounds_toArray, List.set_cons_zero, List.set_cons_succ] at ha'; subst ha')))
            have hts := TS.tb (F := [g6]) htb (by simp)
            replace HOW := Lib.hid (hts.ownV HOW.out (fun k hk hm => by cases hk; simp at hm; exact HEG.out hm))
            replace HROW := Lib.hid ((hts.block _ (Array.getElem?_eq_some_iff.1 HROW.out).1 (by simpa using HPG.out)).trans HROW.out)
            replace HFB := Lib.hid (HFB.out.ts hts (fun y hy => by have := HG6.out; simp at hy; omega))
            clear htb hts HRD HWC
            repeat (refine sch_take (o := ?_) (v := ?_) (a' := ?_) (at_of hops.out ?_) ?_ (fun W hW => ?_) ?_ ?_; rotate_left 3; (focus (simp only [List.getElem?_toArray, List.getElem?_cons_zero, List.getElem?_cons_succ]; rfl)); (focus (rw [hops.out]; rfl)); (focus (go_simp; with_reducible rfl)); (focus (simp only [Act.put, List.setIfInBounds_toArray, List.set_cons_zero, List.set_cons_succ]; rfl)))
            (refine sch_append_bytes (o := ?_) (at_of hops.out ?_) ?_ (.tmp 20) (.tmp 22) ?_ gE _ [] HOW.out ?_ (some ⟨bb, bo + 16, none⟩) 4080 (c - 16) (b.drop 16) HDL.out.symm ?_ (HDR.out _ HFB.out) (by rw [HDL.out]; simp) (by have h1 := (OwnV.base HOW.out gE rfl).2; omega) ?_; rotate_left 1; (focus (simp only [List.getElem?_toArray, List.getElem?_cons_zero, List.getElem?_cons_succ]; rfl)); (focus (rw [hops.out]; rfl)); (focus rfl); (focus rfl); (focus rfl))
            intro v' x26 ho hgr hob
            rw [List.nil_append] at ho
            have hlo : ∀ k, (Value.slice (some ⟨gE, 0, none⟩) 0 0).ownBlock = some k → wst.heap.size ≤ k := fun k hk => by cases hk; exact HGE.out
            refine ⟨Below.grown (Below.refl _ _) hgr HFB.out.le hlo, ?_⟩
            intro a' ha'; simp only [Act.put, List.setIfInBounds_toArray, List.set_cons_zero, List.set_cons_succ] at ha'; subst ha'
            obtain ⟨A', c', rfl, h1, h2, h3, h4⟩ := Own.form ho
            rw [HDL.out] at ho h1 hob ⊢
            have HVP := Lib.hid (fun ad (ha : A' = some ad) => show ad.block ≠ gP from by
              subst ha
              have h5 := (Array.getElem?_eq_some_iff.1 HROW.out).1
              rcases hob with e | e <;> simp [Value.ownBlock] at e <;> have := HPE.out <;> omega)
            replace HROW := Lib.hid ((hgr.block _ (Array.getElem?_eq_some_iff.1 HROW.out).1 (fun e => by cases e; exact HPE.out rfl)).trans HROW.out)
            have HOV := Lib.hid (And.intro h3 (And.intro h1 h2))
            have HAL := Lib.hid (fun ad (ha : A' = some ad) => (h4 ad ha).2)
            replace HFB := Lib.hid (HFB.out.grown hgr hlo)
            clear ho hgr hob hlo h1 h2 h3 h4 HOW
            repeat (refine sch_take (o := ?_) (v := ?_) (a' := ?_) (at_of hops.out ?_) ?_ (fun W hW => ?_) ?_ ?_; rotate_left 3; (focus (simp only [List.getElem?_toArray, List.getElem?_cons_zero, List.getElem?_cons_succ]; rfl)); (focus (rw [hops.out]; rfl)); (focus (go_simp; with_reducible rfl)); (focus (simp only [Act.put, List.setIfInBounds_toArray, List.set_cons_zero, List.set_cons_succ]; rfl)))
            have hst := pg_store (.int .i64 (nb y3)) (.int .u32 (nb nm)) (.slice A' 4080 c') HROW.out (by simp [Value.oneCell'])
            (refine sch_storeR (o := ?_) (at_of hops.out ?_) ?_ 45 (.tmp 4) (.tmp 24) ?_ ?_ (.pointer (some ⟨gP, 0, none⟩)) (.agg #[.int .i64 (nb y3), .int .u32 (nb nm), .slice A' 4080 c']) ?_ ?_ hst (below_setRow (Below.refl _ _) HGP.out _) ?_; rotate_left 1; (focus (simp only [List.getElem?_toArray, List.getElem?_cons_zero, List.getElem?_cons_succ]; rfl)); (focus (rw [hops.out]; rfl)); (focus rfl); (focus rfl); (focus rfl); (focus rfl))
            refine sch_done ?_
            refine schB_leaf ?_
            refine sch_done ?_
            have hts := TS.tb (F := [gP]) (TB.setRow gP x26 #[.int .i64 (nb y3), .int .u32 (nb nm), .slice A' 4080 c']) (by simp)
            have HE1 := Lib.hid (setRow_heap x26 gP _ #[.int .i64 (nb y3), .int .u32 (nb nm), .slice A' 4080 c'] _ _ HROW.out)
            have HE2 := Lib.hid (hts.rd HOV.out.1 (fun ad ha hm => by simp at hm; exact HVP.out ad ha hm))
            have HE3 := Lib.hid (HFB.out.ts hts (fun y hy => by have := HGP.out; simp at hy; omega))
            clear hst hts hops
            go_wp2_with fail
            go_meet
            case rel => exact ⟨gP, A', c', rfl, HE1.out, HE2.out, HOV.out.2.1, HOV.out.2.2, HE3.out⟩
      · skip
        (refine sch_run (o := ?_) (v := ?_) (a' := ?_) (w' := ?_) (at_of hops.out ?_) ?_ ?_ ?_ ?_ ?_; rotate_left 4; (focus (simp only [List.getElem?_toArray, List.getElem?_cons_zero, List.getElem?_cons_succ]; rfl)); (focus (rw [hops.out]; rfl)); (focus (go_simp; constructor <;> with_reducible rfl)); (focus (exact Below.alloc (Below.refl _ _) HFB.out.le _)); (focus (simp only [Act.put, List.setIfInBounds_toArray, List.set_cons_zero, List.set_cons_succ]; rfl)))
        have HOW := Lib.hid (show Own (wF0.alloc (.cells #[] 5)) wF0.heap.size (.slice (some ⟨wF0.heap.size, 0, none⟩) 0 0) [] from OwnV.lit _ wF0 [] (by simp))
        have HGE := Lib.hid (show wst.heap.size ≤ wF0.heap.size from HFB.out.le)
        replace HFB := Lib.hid (HFB.out.alloc (.cells #[] 5))
        generalize wF0.alloc _ = x27 at *
        generalize wF0.heap.size = gE at *
        repeat (refine sch_take (o := ?_) (v := ?_) (a' := ?_) (at_of hops.out ?_) ?_ (fun W hW => ?_) ?_ ?_; rotate_left 3; (focus (simp only [List.getElem?_toArray, List.getElem?_cons_zero, List.getElem?_cons_succ]; rfl)); (focus (rw [hops.out]; rfl)); (focus (go_simp; with_reducible rfl)); (focus (simp only [Act.put, List.setIfInBounds_toArray, List.set_cons_zero, List.set_cons_succ]; rfl)))
        refine sch_done ?_
        refine schB_two ?_ ?_
        · skip
          (refine sch_call (o := ?_) (f := ?_) (args := ?_) (at_of hops.out ?_) ?_ ?_ ?_; rotate_left 3; (focus (simp only [List.getElem?_toArray, List.getElem?_cons_zero, List.getElem?_cons_succ]; rfl)); (focus (rw [hops.out]; rfl)); (focus (go_simp; constructor <;> with_reducible rfl)); (first | ((with_reducible refine (HNEW.out _ HFB.out).mono ?_); rintro e x28 ⟨g6, rfl, hrd, hb⟩; refine ⟨_, rfl, (Below.mono hb HFB.out.le), ?_⟩; intro a' ha'; simp only [Act.put, List.setIfInBounds_toArray, List.set_cons_zero, List.set_cons_succ] at ha'; subst ha')))
          have HRD := Lib.hid hrd
          have HG6 := Lib.hid (show wst.heap.size ≤ g6 from Nat.le_trans HFB.out.le hrd.bg)
          have HEG := Lib.hid (show gE ≠ g6 from by have h1 := (OwnV.base HOW.out gE rfl).2; have h2 := hrd.bg; omega)
          replace HOW := Lib.hid (FB.own hb HOW.out)
          replace HFB := Lib.hid (HFB.out.trans hb)
          clear hb hrd
          repeat (refine sch_take (o := ?_) (v := ?_) (a' := ?_) (at_of hops.out ?_) ?_ (fun W hW => ?_) ?_ ?_; rotate_left 3; (focus (simp only [List.getElem?_toArray, List.getElem?_cons_zero, List.getElem?_cons_succ]; rfl)); (focus (rw [hops.out]; rfl)); (focus (go_simp; with_reducible rfl)); (focus (simp only [Act.put, List.setIfInBounds_toArray, List.set_cons_zero, List.set_cons_succ]; rfl)))
          refine sch_done ?_
          refine schB_two ?_ ?_
          · skip
            have HWC := Lib.hid (HWRD.out _ _ _ HRD.out)
            (refine sch_call (o := ?_) (f := ?_) (args := ?_) (at_of hops.out ?_) ?_ ?_ ?_; rotate_left 3; (focus (simp only [List.getElem?_toArray, List.getElem?_cons_zero, List.getElem?_cons_succ]; rfl)); (focus (rw [hops.out]; rfl)); (focus (go_simp; constructor <;> with_reducible rfl)); (first | ((with_reducible refine (HWC.out).mono ?_); rintro e x29 ⟨rfl, htb⟩; refine ⟨_, rfl, (tb_bl htb HG6.out HFB.out.le), ?_⟩; intro a' ha'; simp only [Act.put, List.setIfInBounds_toArray, List.set_cons_zero, List.set_cons_succ] at ha'; subst ha')))
            have hts := TS.tb (F := [g6]) htb (by simp)
            replace HOW := Lib.hid (hts.ownV HOW.out (fun k hk hm => by cases hk; simp at hm; exact HEG.out hm))
            replace HFB := Lib.hid (HFB.out.ts hts (fun y hy => by have := HG6.out; simp at hy; omega))
            clear htb hts HRD HWC
            repeat (refine sch_take (o := ?_) (v := ?_) (a' := ?_) (at_of hops.out ?_) ?_ (fun W hW => ?_) ?_ ?_; rotate_left 3; (focus (simp only [List.getElem?_toArray, List.getElem?_cons_zero, List.getElem?_cons_succ]; rfl)); (focus (rw [hops.out]; rfl)); (focus (go_simp; with_reducible rfl)); (focus (simp only [Act.put, List.setIfInBounds_toArray, List.set_cons_zero, List.set_cons_succ]; rfl)))
            refine sch_done ?_
            refine schB_two ?_ ?_
            · skip
              (refine sch_append_bytes (o := ?_) (at_of hops.out ?_) ?_ (.tmp 20) (.tmp 22) ?_ gE _ [] HOW.out ?_ (some ⟨bb, bo + 16, none⟩) 4080 (c - 16) (b.drop 16) HDL.out.symm ?_ (HDR.out _ HFB.out) (by rw [HDL.out]; simp) (by have h1 := (OwnV.base HOW.out gE rfl).2; omega) ?_; rotate_left 1; (focus (simp only [List.getElem?_toArray, List.getElem?_cons_zero, List.getElem?_cons_succ]; rfl)); (focus (rw [hops.out]; rfl)); (focus rfl); (focus rfl); (focus rfl))
              intro v' x30 ho hgr hob
              rw [List.nil_append] at ho
              have hlo : ∀ k, (Value.slice (some ⟨gE, 0, none⟩) 0 0).ownBlock = some k → wst.heap.size ≤ k := fun k hk => by cases hk; exact HGE.out
              refine ⟨Below.grown (Below.refl _ _) hgr HFB.out.le hlo, ?_⟩
              intro a' ha'; simp only [Act.put, List.setIfInBounds_toArray, List.set_cons_zero, List.set_cons_succ] at ha'; subst ha'
              obtain ⟨A', c', rfl, h1, h2, h3, h4⟩ := Own.form ho
              rw [HDL.out] at ho h1 hob ⊢
              have HOV := Lib.hid (And.intro h3 (And.intro h1 h2))
              have HAL := Lib.hid (fun ad (ha : A' = some ad) => (h4 ad ha).2)
              replace HFB := Lib.hid (HFB.out.grown hgr hlo)
              clear ho hgr hob hlo h1 h2 h3 h4 HOW
              repeat (refine sch_take (o := ?_) (v := ?_) (a' := ?_) (at_of hops.out ?_) ?_ (fun W hW => ?_) ?_ ?_; rotate_left 3; (focus (simp only [List.getElem?_toArray, List.getElem?_cons_zero, List.getElem?_cons_succ]; rfl)); (focus (rw [hops.out]; rfl)); (focus (go_simp; with_reducible rfl)); (focus (simp only [Act.put, List.setIfInBounds_toArray, List.set_cons_zero, List.set_cons_succ]; rfl)))
              (refine sch_run (o := ?_) (v := ?_) (a' := ?_) (w' := ?_) (at_of hops.out ?_) ?_ ?_ ?_ ?_ ?_; rotate_left 4; (focus (simp only [List.getElem?_toArray, List.getElem?_cons_zero, List.getElem?_cons_succ]; rfl)); (focus (rw [hops.out]; rfl)); (focus (go_simp; constructor <;> with_reducible rfl)); (focus (exact Below.alloc (Below.refl _ _) HFB.out.le _)); (focus (simp only [Act.put, List.setIfInBounds_toArray, List.set_cons_zero, List.set_cons_succ]; rfl)))
              have HROW := Lib.hid (heap_alloc_new x30 (.cells #[.int .i64 0, .int .u32 0, .slice none 0 0] 45))
              have HGP := Lib.hid (show wst.heap.size ≤ x30.heap.size from HFB.out.le)
              have HVP := Lib.hid (fun ad (ha : A' = some ad) => show ad.block ≠ x30.heap.size from Nat.ne_of_lt (HAL.out ad ha))
              replace HOV := Lib.hid (And.intro (FB.rd ((FB.refl x30).alloc (.cells #[.int .i64 0, .int .u32 0, .slice none 0 0] 45)) HOV.out.1) HOV.out.2)
              clear HAL
              replace HFB := Lib.hid (HFB.out.alloc (.cells #[.int .i64 0, .int .u32 0, .slice none 0 0] 45))
              generalize x30.alloc _ = x31 at *
              generalize x30.heap.size = gP at *
              repeat (refine sch_take (o := ?_) (v := ?_) (a' := ?_) (at_of hops.out ?_) ?_ (fun W hW => ?_) ?_ ?_; rotate_left 3; (focus (simp only [List.getElem?_toArray, List.getElem?_cons_zero, List.getElem?_cons_succ]; rfl)); (focus (rw [hops.out]; rfl)); (focus (go_simp; with_reducible rfl)); (focus (simp only [Act.put, List.setIfInBounds_toArray, List.set_cons_zero, List.set_cons_succ]; rfl)))
              have hst := pg_store (.int .i64 (nb y3)) (.int .u32 (nb nm)) (.slice A' 4080 c') HROW.out (by simp [Value.oneCell'])
              (refine sch_storeR (o := ?_) (at_of hops.out ?_) ?_ 45 (.tmp 4) (.tmp 24) ?_ ?_ (.pointer (some ⟨gP, 0, none⟩)) (.agg #[.int .i64 (nb y3), .int .u32 (nb nm), .slice A' 4080 c']) ?_ ?_ hst (below_setRow (Below.refl _ _) HGP.out _) ?_; rotate_left 1; (focus (simp only [List.getElem?_toArray, List.getElem?_cons_zero, List.getElem?_cons_succ]; rfl)); (focus (rw [hops.out]; rfl)); (focus rfl); (focus rfl); (focus rfl); (focus rfl))
              refine sch_done ?_
              refine schB_leaf ?_
              refine sch_done ?_
              have hts := TS.tb (F := [gP]) (TB.setRow gP x31 #[.int .i64 (nb y3), .int .u32 (nb nm), .slice A' 4080 c']) (by simp)
              have HE1 := Lib.hid (setRow_heap x31 gP _ #[.int .i64 (nb y3), .int .u32 (nb nm), .slice A' 4080 c'] _ _ HROW.out)
              have HE2 := Lib.hid (hts.rd HOV.out.1 (fun ad ha hm => by simp at hm; exact HVP.out ad ha hm))
              have HE3 := Lib.hid (HFB.out.ts hts (fun y hy => by have := HGP.out; simp at hy; omega))
              clear hst hts hops
              go_wp2_with fail
              go_meet
              case rel => exact ⟨gP, A', c', rfl, HE1.out, HE2.out, HOV.out.2.1, HOV.out.2.2, HE3.out⟩
            · skip
              (refine sch_run (o := ?_) (v := ?_) (a' := ?_) (w' := ?_) (at_of hops.out ?_) ?_ ?_ ?_ ?_ ?_; rotate_left 4; (focus (simp only [List.getElem?_toArray, List.getElem?_cons_zero, List.getElem?_cons_succ]; rfl)); (focus (rw [hops.out]; rfl)); (focus (go_simp; constructor <;> with_reducible rfl)); (focus (exact Below.alloc (Below.refl _ _) HFB.out.le _)); (focus (simp only [Act.put, List.setIfInBounds_toArray, List.set_cons_zero, List.set_cons_succ]; rfl)))
              have HROW := Lib.hid (heap_alloc_new x29 (.cells #[.int .i64 0, .int .u32 0, .slice none 0 0] 45))
              have HGP := Lib.hid (show wst.heap.size ≤ x29.heap.size from HFB.out.le)
              have HPE := Lib.hid (show x29.heap.size ≠ gE from by have h1 := (OwnV.base HOW.out gE rfl).2; omega)
              replace HOW := Lib.hid (FB.own ((FB.refl x29).alloc (.cells #[.int .i64 0, .int .u32 0, .slice none 0 0] 45)) HOW.out)
              replace HFB := Lib.hid (HFB.out.alloc (.cells #[.int .i64 0, .int .u32 0, .slice none 0 0] 45))
              generalize x29.alloc _ = x32 at *
              generalize x29.heap.size = gP at *
              repeat (refine sch_take (o := ?_) (v := ?_) (a' := ?_) (at_of hops.out ?_) ?_ (fun W hW => ?_) ?_ ?_; rotate_left 3; (focus (simp only [List.getElem?_toArray, List.getElem?_cons_zero, List.getElem?_cons_succ]; rfl)); (focus (rw [hops.out]; rfl)); (focus (go_simp; with_reducible rfl)); (focus (simp only [Act.put, List.setIfInBounds_toArray, List.set_cons_zero, List.set_cons_succ]; rfl)))
              (refine sch_append_bytes (o := ?_) (at_of hops.out ?_) ?_ (.tmp 20) (.tmp 22) ?_ gE _ [] HOW.out ?_ (some ⟨bb, bo + 16, none⟩) 4080 (c - 16) (b.drop 16) HDL.out.symm ?_ (HDR.out _ HFB.out) (by rw [HDL.out]; simp) (by have h1 := (OwnV.base HOW.out gE rfl).2; omega) ?_; rotate_left 1; (focus (simp only [List.getElem?_toArray, List.getElem?_cons_zero, List.getElem?_cons_succ]; rfl)); (focus (rw [hops.out]; rfl)); (focus rfl); (focus rfl); (focus rfl))
              intro v' x33 ho hgr hob
              rw [List.nil_append] at ho
              have hlo : ∀ k, (Value.slice (some ⟨gE, 0, none⟩) 0 0).ownBlock = some k → wst.heap.size ≤ k := fun k hk => by cases hk; exact HGE.out
              refine ⟨Below.grown (Below.refl _ _) hgr HFB.out.le hlo, ?_⟩
              intro a' ha'; simp only [Act.put, List.setIfInBounds_toArray, List.set_cons_zero, List.set_cons_succ] at ha'; subst ha'
              obtain ⟨A', c', rfl, h1, h2, h3, h4⟩ := Own.form ho
              rw [HDL.out] at ho h1 hob ⊢
              have HVP := Lib.hid (fun ad (ha : A' = some ad) => show ad.block ≠ gP from by
                subst ha
                have h5 := (Array.getElem?_eq_some_iff.1 HROW.out).1
                rcases hob with e | e <;> simp [Value.ownBlock] at e <;> have := HPE.out <;> omega)
              replace HROW := Lib.hid ((hgr.block _ (Array.getElem?_eq_some_iff.1 HROW.out).1 (fun e => by cases e; exact HPE.out rfl)).trans HROW.out)
              have HOV := Lib.hid (And.intro h3 (And.intro h1 h2))
              have HAL := Lib.hid (fun ad (ha : A' = some ad) => (h4 ad ha).2)
              replace HFB := Lib.hid (HFB.out.grown hgr hlo)
              clear ho hgr hob hlo h1 h2 h3 h4 HOW
              repeat (refine sch_take (o := ?_) (v := ?_) (a' := ?_) (at_of hops.out ?_) ?_ (fun W hW => ?_) ?_ ?_; rotate_left 3; (focus (simp only [List.getElem?_toArray, List.getElem?_cons_zero, List.getElem?_cons_succ]; rfl)); (focus (rw [hops.out]; rfl)); (focus (go_simp; with_reducible rfl)); (focus (simp only [Act.put, List.setIfInBounds_toArray, List.set_cons_zero, List.set_cons_succ]; rfl)))
              have hst := pg_store (.int .i64 (nb y3)) (.int .u32 (nb nm)) (.slice A' 4080 c') HROW.out (by simp [Value.oneCell'])
              (refine sch_storeR (o := ?_) (at_of hops.out ?_) ?_ 45 (.tmp 4) (.tmp 24) ?_ ?_ (.pointer (some ⟨gP, 0, none⟩)) (.agg #[.int .i64 (nb y3), .int .u32 (nb nm), .slice A' 4080 c']) ?_ ?_ hst (below_setRow (Below.refl _ _) HGP.out _) ?_; rotate_left 1; (focus (simp only [List.getElem?_toArray, List.getElem?_cons_zero, List.getElem?_cons_succ]; rfl)); (focus (rw [hops.out]; rfl)); (focus rfl); (focus rfl); (focus rfl); (focus rfl))
              refine sch_done ?_
              refine schB_leaf ?_
              refine sch_done ?_
              have hts := TS.tb (F := [gP]) (TB.setRow gP x33 #[.int .i64 (nb y3), .int .u32 (nb nm), .slice A' 4080 c']) (by simp)
              have HE1 := Lib.hid (setRow_heap x33 gP _ #[.int .i64 (nb y3), .int .u32 (nb nm), .slice A' 4080 c'] _ _ HROW.out)
              have HE2 := Lib.hid (hts.rd HOV.out.1 (fun ad ha hm => by simp at hm; exact HVP.out ad ha hm))
              have HE3 := Lib.hid (HFB.out.ts hts (fun y hy => by have := HGP.out; simp at hy; omega))
              clear hst hts hops
              go_wp2_with fail
              go_meet
              case rel => exact ⟨gP, A', c', rfl, HE1.out, HE2.out, HOV.out.2.1, HOV.out.2.2, HE3.out⟩
          · skip
            (refine sch_run (o := ?_) (v := ?_) (a' := ?_) (w' := ?_) (at_of hops.out ?_) ?_ ?_ ?_ ?_ ?_; rotate_left 4; (focus (simp only [List.getElem?_toArray, List.getElem?_cons_zero, List.getElem?_cons_succ]; rfl)); (focus (rw [hops.out]; rfl)); (focus (go_simp; constructor <;> with_reducible rfl)); (focus (exact Below.alloc (Below.refl _ _) HFB.out.le _)); (focus (simp only [Act.put, List.setIfInBounds_toArray, List.set_cons_zero, List.set_cons_succ]; rfl)))
            have HROW := Lib.hid (heap_alloc_new x28 (.cells #[.int .i64 0, .int .u32 0, .slice none 0 0] 45))
            have HGP := Lib.hid (show wst.heap.size ≤ x28.heap.size from HFB.out.le)
            have HPG := Lib.hid (show x28.heap.size ≠ g6 from by have h1 := HRD.out.lt; omega)
            replace HRD := Lib.hid (HRD.out.fb ((FB.refl x28).alloc (.cells #[.int .i64 0, .int .u32 0, .slice none 0 0] 45)))
            have HPE := Lib.hid (show x28.heap.size ≠ gE from by have h1 := (OwnV.base HOW.out gE rfl).2; omega)
            replace HOW := Lib.hid (FB.own ((FB.refl x28).alloc (.cells #[.int .i64 0, .int .u32 0, .slice none 0 0] 45)) HOW.out)
            replace HFB := Lib.hid (HFB.out.alloc (.cells #[.int .i64 0, .int .u32 0, .slice none 0 0] 45))
            generalize x28.alloc _ = x34 at *
            generalize x28.heap.size = gP at *
            repeat (refine sch_take (o := ?_) (v := ?_) (a' := ?_) (at_of hops.out ?_) ?_ (fun W hW => ?_) ?_ ?_; rotate_left 3; (focus (simp only [List.getElem?_toArray, List.getElem?_cons_zero, List.getElem?_cons_succ]; rfl)); (focus (rw [hops.out]; rfl)); (focus (go_simp; with_reducible rfl)); (focus (simp only [Act.put, List.setIfInBounds_toArray, List.set_cons_zero, List.set_cons_succ]; rfl)))
            have HWC := Lib.hid (HWRD.out _ _ _ HRD.out)
            (refine sch_call (o := ?_) (f := ?_) (args := ?_) (at_of hops.out ?_) ?_ ?_ ?_; rotate_left 3; (focus (simp only [List.getElem?_toArray, List.getElem?_cons_zero, List.getElem?_cons_succ]; rfl)); (focus (rw [hops.out]; rfl)); (focus (go_simp; constructor <;> with_reducible rfl)); (first | ((with_reducible refine (HWC.out).mono ?_); rintro e x35 ⟨rfl, htb⟩; refine ⟨_, rfl, (tb_bl htb HG6.out HFB.out.le), ?_⟩; intro a' ha'; simp only [Act.put, List.setIfInBounds_toArray, List.set_cons_zero, List.set_cons_succ] at ha'; subst ha')))
            have hts := TS.tb (F := [g6]) htb (by simp)
            replace HOW := Lib.hid (hts.ownV HOW.out (fun k hk hm => by cases hk; simp at hm; exact HEG.out hm))
            replace HROW := Lib.hid ((hts.block _ (Array.getElem?_eq_some_iff.1 HROW.out).1 (by simpa using HPG.out)).trans HROW.out)
            replace HFB := Lib.hid (HFB.out.ts hts (fun y hy => by have := HG6.out; simp at hy; omega))
            clear htb hts HRD HWC
            repeat (refine sch_take (o := ?_) (v := ?_) (a' := ?_) (at_of hops.out ?_) ?_ (fun W hW => ?_) ?_ ?_; rotate_left 3; (focus (simp only [List.getElem?_toArray, List.getElem?_cons_zero, List.getElem?_cons_succ]; rfl)); (focus (rw [hops.out]; rfl)); (focus (go_simp; with_reducible rfl)); (focus (simp only [Act.put, List.setIfInBounds_toArray, List.set_cons_zero, List.set_cons_succ]; rfl)))
            (refine sch_append_bytes (o := ?_) (at_of hops.out ?_) ?_ (.tmp 20) (.tmp 22) ?_ gE _ [] HOW.out ?_ (some ⟨bb, bo + 16, none⟩) 4080 (c - 16) (b.drop 16) HDL.out.symm ?_ (HDR.out _ HFB.out) (by rw [HDL.out]; simp) (by have h1 := (OwnV.base HOW.out gE rfl).2; omega) ?_; rotate_left 1; (focus (simp only [List.getElem?_toArray, List.getElem?_cons_zero, List.getElem?_cons_succ]; rfl)); (focus (rw [hops.out]; rfl)); (focus rfl); (focus rfl); (focus rfl))
            intro v' x36 ho hgr hob
            rw [List.nil_append] at ho
            have hlo : ∀ k, (Value.slice (some ⟨gE, 0, none⟩) 0 0).ownBlock = some k → wst.heap.size ≤ k := fun k hk => by cases hk; exact HGE.out
            refine ⟨Below.grown (Below.refl _ _) hgr HFB.out.le hlo, ?_⟩
            intro a' ha'; simp only [Act.put, List.setIfInBounds_toArray, List.set_cons_zero, List.set_cons_succ] at ha'; subst ha'
            obtain ⟨A', c', rfl, h1, h2, h3, h4⟩ := Own.form ho
            rw [HDL.out] at ho h1 hob ⊢
            have HVP := Lib.hid (fun ad (ha : A' = some ad) => show ad.block ≠ gP from by
              subst ha
              have h5 := (Array.getElem?_eq_some_iff.1 HROW.out).1
              rcases hob with e | e <;> simp [Value.ownBlock] at e <;> have := HPE.out <;> omega)
            replace HROW := Lib.hid ((hgr.block _ (Array.getElem?_eq_some_iff.1 HROW.out).1 (fun e => by cases e; exact HPE.out rfl)).trans HROW.out)
            have HOV := Lib.hid (And.intro h3 (And.intro h1 h2))
            have HAL := Lib.hid (fun ad (ha : A' = some ad) => (h4 ad ha).2)
            replace HFB := Lib.hid (HFB.out.grown hgr hlo)
            clear ho hgr hob hlo h1 h2 h3 h4 HOW
            repeat (refine sch_take (o := ?_) (v := ?_) (a' := ?_) (at_of hops.out ?_) ?_ (fun W hW => ?_) ?_ ?_; rotate_left 3; (focus (simp only [List.getElem?_toArray, List.getElem?_cons_zero, List.getElem?_cons_succ]; rfl)); (focus (rw [hops.out]; rfl)); (focus (go_simp; with_reducible rfl)); (focus (simp only [Act.put, List.setIfInBounds_toArray, List.set_cons_zero, List.set_cons_succ]; rfl)))
            have hst := pg_store (.int .i64 (nb y3)) (.int .u32 (nb nm)) (.slice A' 4080 c') HROW.out (by simp [Value.oneCell'])
            (refine sch_storeR (o := ?_) (at_of hops.out ?_) ?_ 45 (.tmp 4) (.tmp 24) ?_ ?_ (.pointer (some ⟨gP, 0, none⟩)) (.agg #[.int .i64 (nb y3), .int .u32 (nb nm), .slice A' 4080 c']) ?_ ?_ hst (below_setRow (Below.refl _ _) HGP.out _) ?_; rotate_left 1; (focus (simp only [List.getElem?_toArray, List.getElem?_cons_zero, List.getElem?_cons_succ]; rfl)); (focus (rw [hops.out]; rfl)); (focus rfl); (focus rfl); (focus rfl); (focus rfl))
            refine sch_done ?_
            refine schB_leaf ?_
            refine sch_done ?_
            have hts := TS.tb (F := [gP]) (TB.setRow gP x36 #[.int .i64 (nb y3), .int .u32 (nb nm), .slice A' 4080 c']) (by simp)
            have HE1 := Lib.hid (setRow_heap x36 gP _ #[.int .i64 (nb y3), .int .u32 (nb nm), .slice A' 4080 c'] _ _ HROW.out)
            have HE2 := Lib.hid (hts.rd HOV.out.1 (fun ad ha hm => by simp at hm; exact HVP.out ad ha hm))
            have HE3 := Lib.hid (HFB.out.ts hts (fun y hy => by have := HGP.out; simp at hy; omega))
            clear hst hts hops
            go_wp2_with fail
            go_meet
            case rel => exact ⟨gP, A', c', rfl, HE1.out, HE2.out, HOV.out.2.1, HOV.out.2.2, HE3.out⟩
        · skip
          (refine sch_run (o := ?_) (v := ?_) (a' := ?_) (w' := ?_) (at_of hops.out ?_) ?_ ?_ ?_ ?_ ?_; rotate_left 4; (focus (simp only [List.getElem?_toArray, List.getElem?_cons_zero, List.getElem?_cons_succ]; rfl)); (focus (rw [hops.out]; rfl)); (focus (go_simp; constructor <;> with_reducible rfl)); (focus (exact Below.alloc (Below.refl _ _) HFB.out.le _)); (focus (simp only [Act.put, List.setIfInBounds_toArray, List.set_cons_zero, List.set_cons_succ]; rfl)))
          have HROW := Lib.hid (heap_alloc_new x27 (.cells #[.int .i64 0, .int .u32 0, .slice none 0 0] 45))
          have HGP := Lib.hid (show wst.heap.size ≤ x27.heap.size from HFB.out.le)
          have HPE := Lib.hid (show x27.heap.size ≠ gE from by have h1 := (OwnV.base HOW.out gE rfl).2; omega)
          replace HOW := Lib.hid (FB.own ((FB.refl x27).alloc (.cells #[.int .i64 0, .int .u32 0, .slice none 0 0] 45)) HOW.out)
          replace HFB := Lib.hid (HFB.out.alloc (.cells #[.int .i64 0, .int .u32 0, .slice none 0 0] 45))
          generalize x27.alloc _ = x37 at *
          generalize x27.heap.size = gP at *
          repeat (refine sch_take (o := ?_) (v := ?_) (a' := ?_) (at_of hops.out ?_) ?_ (fun W hW => ?_) ?_ ?_; rotate_left 3; (focus (simp only [List.getElem?_toArray, List.getElem?_cons_zero, List.getElem?_cons_succ]; rfl)); (focus (rw [hops.out]; rfl)); (focus (go_simp; with_reducible rfl)); (focus (simp only [Act.put, List.setIfInBounds_toArray, List.set_cons_zero, List.set_cons_succ]; rfl)))
          (refine sch_call (o := ?_) (f := ?_) (args := ?_) (at_of hops.out ?_) ?_ ?_ ?_; rotate_left 3; (focus (simp only [List.getElem?_toArray, List.getElem?_cons_zero, List.getElem?_cons_succ]; rfl)); (focus (rw [hops.out]; rfl)); (focus (go_simp; constructor <;> with_reducible rfl)); (first | ((with_reducible refine (HNEW.out _ HFB.out).mono ?_); rintro e x38 ⟨g6, rfl, hrd, hb⟩; refine ⟨_, rfl, (Below.mono hb HFB.out.le), ?_⟩; intro a' ha'; simp only [Act.put, List.setIfInBounds_toArray, List.set_cons_zero, List.set_cons_succ] at ha'; subst ha')))
          have HRD := Lib.hid hrd
          have HG6 := Lib.hid (show wst.heap.size ≤ g6 from Nat.le_trans HFB.out.le hrd.bg)
          have HEG := Lib.hid (show gE ≠ g6 from by have h1 := (OwnV.base HOW.out gE rfl).2; have h2 := hrd.bg; omega)
          replace HOW := Lib.hid (FB.own hb HOW.out)
          have HPG := Lib.hid (show gP ≠ g6 from by have h1 := (Array.getElem?_eq_some_iff.1 HROW.out).1; have h2 := hrd.bg; omega)
          replace HROW := Lib.hid ((FB.block hb _ (Array.getElem?_eq_some_iff.1 HROW.out).1).trans HROW.out)
          replace HFB := Lib.hid (HFB.out.trans hb)
          clear hb hrd
          repeat (refine sch_take (o := ?_) (v := ?_) (a' := ?_) (at_of hops.out ?_) ?_ (fun W hW => ?_) ?_ ?_; rotate_left 3; (focus (simp only [List.getElem?_toArray, List.getElem?_cons_zero, List.getElem?_cons_succ]; rfl)); (focus (rw [hops.out]; rfl)); (focus (go_simp; with_reducible rfl)); (focus (simp only [Act.put, List.setIfInBounds_toArray, List.set_cons_zero, List.set_cons_succ]; rfl)))
          have HWC := Lib.hid (HWRD.out _ _ _ HRD.out)
          (refine sch_call (o := ?_) (f := ?_) (args := ?_) (at_of hops.out ?_) ?_ ?_ ?_; rotate_left 3; (focus (simp only [List.getElem?_toArray, List.getElem?_cons_zero, List.getElem?_cons_succ]; rfl)); (focus (rw [hops.out]; rfl)); (focus (go_simp; constructor <;> with_reducible rfl)); (first | ((with_reducible refine (HWC.out).mono ?_); rintro e x39 ⟨rfl, htb⟩; refine ⟨_, rfl, (tb_bl htb HG6.out HFB.out.le), ?_⟩; intro a' ha'; simp only [Act.put, List.setIfInBounds_toArray, List.set_cons_zero, List.set_cons_succ] at ha'; subst ha')))
          have hts := TS.tb (F := [g6]) htb (by simp)
          replace HOW := Lib.hid (hts.ownV HOW.out (fun k hk hm => by cases hk; simp at hm; exact HEG.out hm))
          replace HROW := Lib.hid ((hts.block _ (Array.getElem?_eq_some_iff.1 HROW.out).1 (by simpa using HPG.out)).trans HROW.out)
          replace HFB := Lib.hid (HFB.out.ts hts (fun y hy => by have := HG6.out; simp at hy; omega))
          clear htb hts HRD HWC
          repeat (refine sch_take (o := ?_) (v := ?_) (a' := ?_) (at_of hops.out ?_) ?_ (fun W hW => ?_) ?_ ?_; rotate_left 3; (focus (simp only [List.getElem?_toArray, List.getElem?_cons_zero, List.getElem?_cons_succ]; rfl)); (focus (rw [hops.out]; rfl)); (focus (go_simp; with_reducible rfl)); (focus (simp only [Act.put, List.setIfInBounds_toArray, List.set_cons_zero, List.set_cons_succ]; rfl)))
          (refine sch_append_bytes (o := ?_) (at_of hops.out ?_) ?_ (.tmp 20) (.tmp 22) ?_ gE _ [] HOW.out ?_ (some ⟨bb, bo + 16, none⟩) 4080 (c - 16) (b.drop 16) HDL.out.symm ?_ (HDR.out _ HFB.out) (by rw [HDL.out]; simp) (by have h1 := (OwnV.base HOW.out gE rfl).2; omega) ?_; rotate_left 1; (focus (simp only [List.getElem?_toArray, List.getElem?_cons_zero, List.getElem?_cons_succ]; rfl)); (focus (rw [hops.out]; rfl)); (focus rfl); (focus rfl); (focus rfl))
          intro v' x40 ho hgr hob
          rw [List.nil_append] at ho
          have hlo : ∀ k, (Value.slice (some ⟨gE, 0, none⟩) 0 0).ownBlock = some k → wst.heap.size ≤ k := fun k hk => by cases hk; exact HGE.out
          refine ⟨Below.grown (Below.refl _ _) hgr HFB.out.le hlo, ?_⟩
          intro a' ha'; simp only [Act.put, List.setIfInBounds_toArray, List.set_cons_zero, List.set_cons_succ] at ha'; subst ha'
          obtain ⟨A', c', rfl, h1, h2, h3, h4⟩ := Own.form ho
          rw [HDL.out] at ho h1 hob ⊢
          have HVP := Lib.hid (fun ad (ha : A' = some ad) => show ad.block ≠ gP from by
            subst ha
            have h5 := (Array.getElem?_eq_some_iff.1 HROW.out).1
            rcases hob with e | e <;> simp [Value.ownBlock] at e <;> have := HPE.out <;> omega)
          replace HROW := Lib.hid ((hgr.block _ (Array.getElem?_eq_some_iff.1 HROW.out).1 (fun e => by cases e; exact HPE.out rfl)).trans HROW.out)
          have HOV := Lib.hid (And.intro h3 (And.intro h1 h2))
          have HAL := Lib.hid (fun ad (ha : A' = some ad) => (h4 ad ha).2)
          replace HFB := Lib.hid (HFB.out.grown hgr hlo)
          clear ho hgr hob hlo h1 h2 h3 h4 HOW
          repeat (refine sch_take (o := ?_) (v := ?_) (a' := ?_) (at_of hops.out ?_) ?_ (fun W hW => ?_) ?_ ?_; rotate_left 3; (focus (simp only [List.getElem?_toArray, List.getElem?_cons_zero, List.getElem?_cons_succ]; rfl)); (focus (rw [hops.out]; rfl)); (focus (go_simp; with_reducible rfl)); (focus (simp only [Act.put, List.setIfInBounds_toArray, List.set_cons_zero, List.set_cons_succ]; rfl)))
          have hst := pg_store (.int .i64 (nb y3)) (.int .u32 (nb nm)) (.slice A' 4080 c') HROW.out (by simp [Value.oneCell'])
          (refine sch_storeR (o := ?_) (at_of hops.out ?_) ?_ 45 (.tmp 4) (.tmp 24) ?_ ?_ (.pointer (some ⟨gP, 0, none⟩)) (.agg #[.int .i64 (nb y3), .int .u32 (nb nm), .slice A' 4080 c']) ?_ ?_ hst (below_setRow (Below.refl _ _) HGP.out _) ?_; rotate_left 1; (focus (simp only [List.getElem?_toArray, List.getElem?_cons_zero, List.getElem?_cons_succ]; rfl)); (focus (rw [hops.out]; rfl)); (focus rfl); (focus rfl); (focus rfl); (focus rfl))
          refine sch_done ?_
          refine schB_leaf ?_
          refine sch_done ?_
          have hts := TS.tb (F := [gP]) (TB.setRow gP x40 #[.int .i64 (nb y3), .int .u32 (nb nm), .slice A' 4080 c']) (by simp)
          have HE1 := Lib.hid (setRow_heap x40 gP _ #[.int .i64 (nb y3), .int .u32 (nb nm), .slice A' 4080 c'] _ _ HROW.out)
          have HE2 := Lib.hid (hts.rd HOV.out.1 (fun ad ha hm => by simp at hm; exact HVP.out ad ha hm))
          have HE3 := Lib.hid (HFB.out.ts hts (fun y hy => by have := HGP.out; simp at hy; omega))
          clear hst hts hops
          go_wp2_with fail
          go_meet
          case rel => exact ⟨gP, A', c', rfl, HE1.out, HE2.out, HOV.out.2.1, HOV.out.2.2, HE3.out⟩
      · skip
        (refine sch_run (o := ?_) (v := ?_) (a' := ?_) (w' := ?_) (at_of hops.out ?_) ?_ ?_ ?_ ?_ ?_; rotate_left 4; (focus (simp only [List.getElem?_toArray, List.getElem?_cons_zero, List.getElem?_cons_succ]; rfl)); (focus (rw [hops.out]; rfl)); (focus (go_simp; constructor <;> with_reducible rfl)); (focus (exact Below.alloc (Below.refl _ _) HFB.out.le _)); (focus (simp only [Act.put, List.setIfInBounds_toArray, List.set_cons_zero, List.set_cons_succ]; rfl)))
        have HROW := Lib.hid (heap_alloc_new wF0 (.cells #[.int .i64 0, .int .u32 0, .slice none 0 0] 45))
        have HGP := Lib.hid (show wst.heap.size ≤ wF0.heap.size from HFB.out.le)
        replace HFB := Lib.hid (HFB.out.alloc (.cells #[.int .i64 0, .int .u32 0, .slice none 0 0] 45))
        generalize wF0.alloc _ = x41 at *
        generalize wF0.heap.size = gP at *
        repeat (refine sch_take (o := ?_) (v := ?_) (a' := ?_) (at_of hops.out ?_) ?_ (fun W hW => ?_) ?_ ?_; rotate_left 3; (focus (simp only [List.getElem?_toArray, List.getElem?_cons_zero, List.getElem?_cons_succ]; rfl)); (focus (rw [hops.out]; rfl)); (focus (go_simp; with_reducible rfl)); (focus (simp only [Act.put, List.setIfInBounds_toArray, List.set_cons_zero, List.set_cons_succ]; rfl)))
        refine sch_done ?_
        refine schB_two ?_ ?_
        · skip
          (refine sch_call (o := ?_) (f := ?_) (args := ?_) (at_of hops.out ?_) ?_ ?_ ?_; rotate_left 3; (focus (simp only [List.getElem?_toArray, List.getElem?_cons_zero, List.getElem?_cons_succ]; rfl)); (focus (rw [hops.out]; rfl)); (focus (go_simp; constructor <;> with_reducible rfl)); (first | ((with_reducible refine (HNEW.out _ HFB.out).mono ?_); rintro e x42 ⟨g6, rfl, hrd, hb⟩; refine ⟨_, rfl, (Below.mono hb HFB.out.le), ?_⟩; intro a' ha'; simp only [Act.put, List.setIfInBounds_toArray, List.set_cons_zero, List.set_cons_succ] at ha'; subst ha')))
          have HRD := Lib.hid hrd
          have HG6 := Lib.hid (show wst.heap.size ≤ g6 from Nat.le_trans HFB.out.le hrd.bg)
          have HPG := Lib.hid (show gP ≠ g6 from by have h1 := (Array.getElem?_eq_some_iff.1 HROW.out).1; have h2 := hrd.bg; omega)
          replace HROW := Lib.hid ((FB.block hb _ (Array.getElem?_eq_some_iff.1 HROW.out).1).trans HROW.out)
          replace HFB := Lib.hid (HFB.out.trans hb)
          clear hb hrd
          repeat (refine sch_take (o := ?_) (v := ?_) (a' := ?_) (at_of hops.out ?_) ?_ (fun W hW => ?_) ?_ ?_; rotate_left 3; (focus (simp only [List.getElem?_toArray, List.getElem?_cons_zero, List.getElem?_cons_succ]; rfl)); (focus (rw [hops.out]; rfl)); (focus (go_simp; with_reducible rfl)); (focus (simp only [Act.put, List.setIfInBounds_toArray, List.set_cons_zero, List.set_cons_succ]; rfl)))
          refine sch_done ?_
          refine schB_two ?_ ?_
          · skip
            have HWC := Lib.hid (HWRD.out _ _ _ HRD.out)
            (refine sch_call (o := ?_) (f := ?_) (args := ?_) (at_of hops.out ?_) ?_ ?_ ?_; rotate_left 3; (focus (simp only [List.getElem?_toArray, List.getElem?_cons_zero, List.getElem?_cons_succ]; rfl)); (focus (rw [hops.out]; rfl)); (focus (go_simp; constructor <;> with_reducible rfl)); (first | ((with_reducible refine (HWC.out).mono ?_); rintro e x43 ⟨rfl, htb⟩; refine ⟨_, rfl, (tb_bl htb HG6.out HFB.out.le), ?_⟩; intro a' ha'; simp only [Act.put, List.setIfInBounds_toArray, List.set_cons_zero, List.set_cons_succ] at ha'; subst ha')))
            have hts := TS.tb (F := [g6]) htb (by simp)
            replace HROW := Lib.hid ((hts.block _ (Array.getElem?_eq_some_iff.1 HROW.out).1 (by simpa using HPG.out)).trans HROW.out)
            replace HFB := Lib.hid (HFB.out.ts hts (fun y hy => by have := HG6.out; simp at hy; omega))
            clear htb hts HRD HWC
            repeat (refine sch_take (o := ?_) (v := ?_) (a' := ?_) (at_of hops.out ?_) ?_ (fun W hW => ?_) ?_ ?_; rotate_left 3; (focus (simp only [List.getElem?_toArray, List.getElem?_cons_zero, List.getElem?_cons_succ]; rfl)); (focus (rw [hops.out]; rfl)); (focus (go_simp; with_reducible rfl)); (focus (simp only [Act.put, List.setIfInBounds_toArray, List.set_cons_zero, List.set_cons_succ]; rfl)))
            (refine sch_run (o := ?_) (v := ?_) (a' := ?_) (w' := ?_) (at_of hops.out ?_) ?_ ?_ ?_ ?_ ?_; rotate_left 4; (focus (simp only [List.getElem?_toArray, List.getElem?_cons_zero, List.getElem?_cons_succ]; rfl)); (focus (rw [hops.out]; rfl)); (focus (go_simp; constructor <;> with_reducible rfl)); (focus (exact Below.alloc (Below.refl _ _) HFB.out.le _)); (focus (simp only [Act.put, List.setIfInBounds_toArray, List.set_cons_zero, List.set_cons_succ]; rfl)))
            have HOW := Lib.hid (show Own (x43.alloc (.cells #[] 5)) x43.heap.size (.slice (some ⟨x43.heap.size, 0, none⟩) 0 0) [] from OwnV.lit _ x43 [] (by simp))
            have HGE := Lib.hid (show wst.heap.size ≤ x43.heap.size from HFB.out.le)
            have HPE := Lib.hid (show gP ≠ x43.heap.size from by have h1 := (Array.getElem?_eq_some_iff.1 HROW.out).1; omega)
            replace HROW := Lib.hid ((((FB.refl x43).alloc (.cells #[] 5)).block _ (Array.getElem?_eq_some_iff.1 HROW.out).1).trans HROW.out)
            replace HFB := Lib.hid (HFB.out.alloc (.cells #[] 5))
            generalize x43.alloc _ = x44 at *
            generalize x43.heap.size = gE at *
            repeat (refine sch_take (o := ?_) (v := ?_) (a' := ?_) (at_of hops.out ?_) ?_ (fun W hW => ?_) ?_ ?_; rotate_left 3; (focus (simp only [List.getElem?_toArray, List.getElem?_cons_zero, List.getElem?_cons_succ]; rfl)); (focus (rw [hops.out]; rfl)); (focus (go_simp; with_reducible rfl)); (focus (simp only [Act.put, List.setIfInBounds_toArray, List.set_cons_zero, List.set_cons_succ]; rfl)))
            (refine sch_append_bytes (o := ?_) (at_of hops.out ?_) ?_ (.tmp 20) (.tmp 22) ?_ gE _ [] HOW.out ?_ (some ⟨bb, bo + 16, none⟩) 4080 (c - 16) (b.drop 16) HDL.out.symm ?_ (HDR.out _ HFB.out) (by rw [HDL.out]; simp) (by have h1 := (OwnV.base HOW.out gE rfl).2; omega) ?_; rotate_left 1; (focus (simp only [List.getElem?_toArray, List.getElem?_cons_zero, List.getElem?_cons_succ]; rfl)); (focus (rw [hops.out]; rfl)); (focus rfl); (focus rfl); (focus rfl))
            intro v' x45 ho hgr hob
            rw [List.nil_append] at ho
            have hlo : ∀ k, (Value.slice (some ⟨gE, 0, none⟩) 0 0).ownBlock = some k → wst.heap.size ≤ k := fun k hk => by cases hk; exact HGE.out
            refine ⟨Below.grown (Below.refl _ _) hgr HFB.out.le hlo, ?_⟩
            intro a' ha'; simp only [Act.put, List.setIfInBounds_toArray, List.set_cons_zero, List.set_cons_succ] at ha'; subst ha'
            obtain ⟨A', c', rfl, h1, h2, h3, h4⟩ := Own.form ho
            rw [HDL.out] at ho h1 hob ⊢
            have HVP := Lib.hid (fun ad (ha : A' = some ad) => show ad.block ≠ gP from by
              subst ha
              have h5 := (Array.getElem?_eq_some_iff.1 HROW.out).1
              rcases hob with e | e <;> simp [Value.ownBlock] at e <;> have := HPE.out <;> omega)
            replace HROW := Lib.hid ((hgr.block _ (Array.getElem?_eq_some_iff.1 HROW.out).1 (fun e => by cases e; exact HPE.out rfl)).trans HROW.out)
            have HOV := Lib.hid (And.intro h3 (And.intro h1 h2))
            have HAL := Lib.hid (fun ad (ha : A' = some ad) => (h4 ad ha).2)
            replace HFB := Lib.hid (HFB.out.grown hgr hlo)
            clear ho hgr hob hlo h1 h2 h3 h4 HOW
            repeat (refine sch_take (o := ?_) (v := ?_) (a' := ?_) (at_of hops.out ?_) ?_ (fun W hW => ?_) ?_ ?_; rotate_left 3; (focus (simp only [List.getElem?_toArray, List.getElem?_cons_zero, List.getElem?_cons_succ]; rfl)); (focus (rw [hops.out]; rfl)); (focus (go_simp; with_reducible rfl)); (focus (simp only [Act.put, List.setIfInBounds_toArray, List.set_cons_zero, List.set_cons_succ]; rfl)))
            have hst := pg_store (.int .i64 (nb y3)) (.int .u32 (nb nm)) (.slice A' 4080 c') HROW.out (by simp [Value.oneCell'])
            (refine sch_storeR (o := ?_) (at_of hops.out ?_) ?_ 45 (.tmp 4) (.tmp 24) ?_ ?_ (.pointer (some ⟨gP, 0, none⟩)) (.agg #[.int .i64 (nb y3), .int .u32 (nb nm), .slice A' 4080 c']) ?_ ?_ hst (below_setRow (Below.refl _ _) HGP.out _) ?_; rotate_left 1; (focus (simp only [List.getElem?_toArray, List.getElem?_cons_zero, List.getElem?_cons_succ]; rfl)); (focus (rw [hops.out]; rfl)); (focus rfl); (focus rfl); (focus rfl); (focus rfl))
            refine sch_done ?_
            refine schB_leaf ?_
            refine sch_done ?_
            have hts := TS.tb (F := [gP]) (TB.setRow gP x45 #[.int .i64 (nb y3), .int .u32 (nb nm), .slice A' 4080 c']) (by simp)
            have HE1 := Lib.hid (setRow_heap x45 gP _ #[.int .i64 (nb y3), .int .u32 (nb nm), .slice A' 4080 c'] _ _ HROW.out)
            have HE2 := Lib.hid (hts.rd HOV.out.1 (fun ad ha hm => by simp at hm; exact HVP.out ad ha hm))
            have HE3 := Lib.hid (HFB.out.ts hts (fun y hy => by have := HGP.out; simp at hy; omega))
            clear hst hts hops
            go_wp2_with fail
            go_meet
            case rel => exact ⟨gP, A', c', rfl, HE1.out, HE2.out, HOV.out.2.1, HOV.out.2.2, HE3.out⟩
          · skip
            (refine sch_run (o := ?_) (v := ?_) (a' := ?_) (w' := ?_) (at_of hops.out ?_) ?_ ?_ ?_ ?_ ?_; rotate_left 4; (focus (simp only [List.getElem?_toArray, List.getElem?_cons_zero, List.getElem?_cons_succ]; rfl)); (focus (rw [hops.out]; rfl)); (focus (go_simp; constructor <;> with_reducible rfl)); (focus (exact Below.alloc (Below.refl _ _) HFB.out.le _)); (focus (simp only [Act.put, List.setIfInBounds_toArray, List.set_cons_zero, List.set_cons_succ]; rfl)))
            have HOW := Lib.hid (show Own (x42.alloc (.cells #[] 5)) x42.heap.size (.slice (some ⟨x42.heap.size, 0, none⟩) 0 0) [] from OwnV.lit _ x42 [] (by simp))
            have HGE := Lib.hid (show wst.heap.size ≤ x42.heap.size from HFB.out.le)
            have HEG := Lib.hid (show x42.heap.size ≠ g6 from by have h1 := HRD.out.lt; omega)
            replace HRD := Lib.hid (HRD.out.fb ((FB.refl x42).alloc (.cells #[] 5)))
            have HPE := Lib.hid (show gP ≠ x42.heap.size from by have h1 := (Array.getElem?_eq_some_iff.1 HROW.out).1; omega)
            replace HROW := Lib.hid ((((FB.refl x42).alloc (.cells #[] 5)).block _ (Array.getElem?_eq_some_iff.1 HROW.out).1).trans HROW.out)
            replace HFB := Lib.hid (HFB.out.alloc (.cells #[] 5))
            generalize x42.alloc _ = x46 at *
            generalize x42.heap.size = gE at *
            repeat (refine sch_take (o := ?_) (v := ?_) (a' := ?_) (at_of hops.out ?_) ?_ (fun W hW => ?_) ?_ ?_; rotate_left 3; (focus (simp only [List.getElem?_toArray, List.getElem?_cons_zero, List.getElem?_cons_succ]; rfl)); (focus (rw [hops.out]; rfl)); (focus (go_simp; with_reducible rfl)); (focus (simp only [Act.put, List.setIfInBounds_toArray, List.set_cons_zero, List.set_cons_succ]; rfl)))
            have HWC := Lib.hid (HWRD.out _ _ _ HRD.out)
            (refine sch_call (o := ?_) (f := ?_) (args := ?_) (at_of hops.out ?_) ?_ ?_ ?_; rotate_left 3; (focus (simp only [List.getElem?_toArray, List.getElem?_cons_zero, List.getElem?_cons_succ]; rfl)); (focus (rw [hops.out]; rfl)); (focus (go_simp; constructor <;> with_reducible rfl)); (first | ((with_reducible refine (HWC.out).mono ?_); rintro e x47 ⟨rfl, htb⟩; refine ⟨_, rfl, (tb_bl htb HG6.out HFB.out.le), ?_⟩; intro a' ha'; simp only [Act.put, List.setIfInBounds_toArray, List.set_cons_zero, List.set_cons_succ] at ha'; subst ha')))
            have hts := TS.tb (F := [g6]) htb (by simp)
            replace HOW := Lib.hid (hts.ownV HOW.out (fun k hk hm => by cases hk; simp at hm; exact HEG.out hm))
            replace HROW := Lib.hid ((hts.block _ (Array.getElem?_eq_some_iff.1 HROW.out).1 (by simpa using HPG.out)).trans HROW.out)
            replace HFB := Lib.hid (HFB.out.ts hts (fun y hy => by have := HG6.out; simp at hy; omega))
            clear htb hts HRD HWC
            repeat (refine sch_take (o := ?_) (v := ?_) (a' := ?_) (at_of hops.out ?_) ?_ (fun W hW => ?_) ?_ ?_; rotate_left 3; (focus (simp only [List.getElem?_toArray, List.getElem?_cons_zero, List.getElem?_cons_succ]; rfl)); (focus (rw [hops.out]; rfl)); (focus (go_simp; with_reducible rfl)); (focus (simp only [Act.put, List.setIfInBounds_toArray, List.set_cons_zero, List.set_cons_succ]; rfl)))
            (refine sch_append_bytes (o := ?_) (at_of hops.out ?_) ?_ (.tmp 20) (.tmp 22) ?_ gE _ [] HOW.out ?_ (some ⟨bb, bo + 16, none⟩) 4080 (c - 16) (b.drop 16) HDL.out.symm ?_ (HDR.out _ HFB.out) (by rw [HDL.out]; simp) (by have h1 := (OwnV.base HOW.out gE rfl).2; omega) ?_; rotate_left 1; (focus (simp only [List.getElem?_toArray, List.getElem?_cons_zero, List.getElem?_cons_succ]; rfl)); (focus (rw [hops.out]; rfl)); (focus rfl); (focus rfl); (focus rfl))
            intro v' x48 ho hgr hob
            rw [List.nil_append] at ho
            have hlo : ∀ k, (Value.slice (some ⟨gE, 0, none⟩) 0 0).ownBlock = some k → wst.heap.size ≤ k := fun k hk => by cases hk; exact HGE.out
            refine ⟨Below.grown (Below.refl _ _) hgr HFB.out.le hlo, ?_⟩
            intro a' ha'; simp only [Act.put, List.setIfInBounds_toArray, List.set_cons_zero, List.set_cons_succ] at ha'; subst ha'
            obtain ⟨A', c', rfl, h1, h2, h3, h4⟩ := Own.form ho
            rw [HDL.out] at ho h1 hob ⊢
            have HVP := Lib.hid (fun ad (ha : A' = some ad) => show ad.block ≠ gP from by
              subst ha
              have h5 := (Array.getElem?_eq_some_iff.1 HROW.out).1
              rcases hob with e | e <;> simp [Value.ownBlock] at e <;> have := HPE.out <;> omega)
            replace HROW := Lib.hid ((hgr.block _ (Array.getElem?_eq_some_iff.1 HROW.out).1 (fun e => by cases e; exact HPE.out rfl)).trans HROW.out)
            have HOV := Lib.hid (And.intro h3 (And.intro h1 h2))
            have HAL := Lib.hid (fun ad (ha : A' = some ad) => (h4 ad ha).2)
            replace HFB := Lib.hid (HFB.out.grown hgr hlo)
            clear ho hgr hob hlo h1 h2 h3 h4 HOW
            repeat (refine sch_take (o := ?_) (v := ?_) (a' := ?_) (at_of hops.out ?_) ?_ (fun W hW => ?_) ?_ ?_; rotate_left 3; (focus (simp only [List.getElem?_toArray, List.getElem?_cons_zero, List.getElem?_cons_succ]; rfl)); (focus (rw [hops.out]; rfl)); (focus (go_simp; with_reducible rfl)); (focus (simp only [Act.put, List.setIfInBounds_toArray, List.set_cons_zero, List.set_cons_succ]; rfl)))
            have hst := pg_store (.int .i64 (nb y3)) (.int .u32 (nb nm)) (.slice A' 4080 c') HROW.out (by simp [Value.oneCell'])
            (refine sch_storeR (o := ?_) (at_of hops.out ?_) ?_ 45 (.tmp 4) (.tmp 24) ?_ ?_ (.pointer (some ⟨gP, 0, none⟩)) (.agg #[.int .i64 (nb y3), .int .u32 (nb nm), .slice A' 4080 c']) ?_ ?_ hst (below_setRow (Below.refl _ _) HGP.out _) ?_; rotate_left 1; (focus (simp only [List.getElem?_toArray, List.getElem?_cons_zero, List.getElem?_cons_succ]; rfl)); (focus (rw [hops.out]; rfl)); (focus rfl); (focus rfl); (focus rfl); (focus rfl))
            refine sch_done ?_
            refine schB_leaf ?_
            refine sch_done ?_
            have hts := TS.tb (F := [gP]) (TB.setRow gP x48 #[.int .i64 (nb y3), .int .u32 (nb nm), .slice A' 4080 c']) (by simp)
            have HE1 := Lib.hid (setRow_heap x48 gP _ #[.int .i64 (nb y3), .int .u32 (nb nm), .slice A' 4080 c'] _ _ HROW.out)
            have HE2 := Lib.hid (hts.rd HOV.out.1 (fun ad ha hm => by simp at hm; exact HVP.out ad ha hm))
            have HE3 := Lib.hid (HFB.out.ts hts (fun y hy => by have := HGP.out; simp at hy; omega))
            clear hst hts hops
            go_wp2_with fail
            go_meet
            case rel => exact ⟨gP, A', c', rfl, HE1.out, HE2.out, HOV.out.2.1, HOV.out.2.2, HE3.out⟩
        · skip
          (refine sch_run (o := ?_) (v := ?_) (a' := ?_) (w' := ?_) (at_of hops.out ?_) ?_ ?_ ?_ ?_ ?_; rotate_left 4; (focus (simp only [List.getElem?_toArray, List.getElem?_cons_zero, List.getElem?_cons_succ]; rfl)); (focus (rw [hops.out]; rfl)); (focus (go_simp; constructor <;> with_reducible rfl)); (focus (exact Below.alloc (Below.refl _ _) HFB.out.le _)); (focus (simp only [Act.put, List.setIfInBounds_toArray, List.set_cons_zero, List.set_cons_succ]; rfl)))
          have HOW := Lib.hid (show Own (x41.alloc (.cells #[] 5)) x41.heap.size (.slice (some ⟨x41.heap.size, 0, none⟩) 0 0) [] from OwnV.lit _ x41 [] (by simp))
          have HGE := Lib.hid (show wst.heap.size ≤ x41.heap.size from HFB.out.le)
          have HPE := Lib.hid (show gP ≠ x41.heap.size from by have h1 := (Array.getElem?_eq_some_iff.1 HROW.out).1; omega)
          replace HROW := Lib.hid ((((FB.refl x41).alloc (.cells #[] 5)).block _ (Array.getElem?_eq_some_iff.1 HROW.out).1).trans HROW.out)
          replace HFB := Lib.hid (HFB.out.alloc (.cells #[] 5))
          generalize x41.alloc _ = x49 at *
          generalize x41.heap.size = gE at *
          repeat (refine sch_take (o := ?_) (v := ?_) (a' := ?_) (at_of hops.out ?_) ?_ (fun W hW => ?_) ?_ ?_; rotate_left 3; (focus (simp only [List.getElem?_toArray, List.getElem?_cons_zero, List.getElem?_cons_succ]; rfl)); (focus (rw [hops.out]; rfl)); (focus (go_simp; with_reducible rfl)); (focus (simp only [Act.put, List.setIfInBounds_toArray, List.set_cons_zero, List.set_cons_succ]; rfl)))
          (refine sch_call (o := ?_) (f := ?_) (args := ?_) (at_of hops.out ?_) ?_ ?_ ?_; rotate_left 3; (focus (simp only [List.getElem?_toArray, List.getElem?_cons_zero, List.getElem?_cons_succ]; rfl)); (focus (rw [hops.out]; rfl)); (focus (go_simp; constructor <;> with_reducible rfl)); (first | ((with_reducible refine (HNEW.out _ HFB.out).mono ?_); rintro e x50 ⟨g6, rfl, hrd, hb⟩; refine ⟨_, rfl, (Below.mono hb HFB.out.le), ?_⟩; intro a' ha'; simp only [Act.put, List.setIfInBounds_toArray, List.set_cons_zero, List.set_cons_succ] at ha'; subst ha')))
          have HRD := Lib.hid hrd
          have HG6 := Lib.hid (show wst.heap.size ≤ g6 from Nat.le_trans HFB.out.le hrd.bg)
          have HEG := Lib.hid (show gE ≠ g6 from by have h1 := (OwnV.base HOW.out gE rfl).2; have h2 := hrd.bg; omega)
          replace HOW := Lib.hid (FB.own hb HOW.out)
          have HPG := Lib.hid (show gP ≠ g6 from by have h1 := (Array.getElem?_eq_some_iff.1 HROW.out).1; have h2 := hrd.bg; omega)
          replace HROW := Lib.hid ((FB.block hb _ (Array.getElem?_eq_some_iff.1 HROW.out).1).trans HROW.out)
          replace HFB := Lib.hid (HFB.out.trans hb)
          clear hb hrd
          repeat (refine sch_take (o := ?_) (v := ?_) (a' := ?_) (at_of hops.out ?_) ?_ (fun W hW => ?_) ?_ ?_; rotate_left 3; (focus (simp only [List.getElem?_toArray, List.getElem?_cons_zero, List.getElem?_cons_succ]; rfl)); (focus (rw [hops.out]; rfl)); (focus (go_simp; with_reducible rfl)); (focus (simp only [Act.put, List.setIfInBounds_toArray, List.set_cons_zero, List.set_cons_succ]; rfl)))
          have HWC := Lib.hid (HWRD.out _ _ _ HRD.out)
          (refine sch_call (o := ?_) (f := ?_) (args := ?_) (at_of hops.out ?_) ?_ ?_ ?_; rotate_left 3; (focus (simp only [List.getElem?_toArray, List.getElem?_cons_zero, List.getElem?_cons_succ]; rfl)); (focus (rw [hops.out]; rfl)); (focus (go_simp; constructor <;> with_reducible rfl)); (first | ((with_reducible refine (HWC.out).mono ?_); rintro e x51 ⟨rfl, htb⟩; refine ⟨_, rfl, (tb_bl htb HG6.out HFB.out.le), ?_⟩; intro a' ha'; simp only [Act.put, List.setIfInBounds_toArray, List.set_cons_zero, List.set_cons_succ] at ha'; subst ha')))
          have hts := TS.tb (F := [g6]) htb (by simp)
          replace HOW := Lib.hid (hts.ownV HOW.out (fun k hk hm => by cases hk; simp at hm; exact HEG.out hm))
          replace HROW := Lib.hid ((hts.block _ (Array.getElem?_eq_some_iff.1 HROW.out).1 (by simpa using HPG.out)).trans HROW.out)
          replace HFB := Lib.hid (HFB.out.ts hts (fun y hy => by have := HG6.out; simp at hy; omega))
          clear htb hts HRD HWC
          repeat (refine sch_take (o := ?_) (v := ?_) (a' := ?_) (at_of hops.out ?_) ?_ (fun W hW => ?_) ?_ ?_; rotate_left 3; (focus (simp only [List.getElem?_toArray, List.getElem?_cons_zero, List.getElem?_cons_succ]; rfl)); (focus (rw [hops.out]; rfl)); (focus (go_simp; with_reducible rfl)); (focus (simp only [Act.put, List.setIfInBounds_toArray, List.set_cons_zero, List.set_cons_succ]; rfl)))
          (refine sch_append_bytes (o := ?_) (at_of hops.out ?_) ?_ (.tmp 20) (.tmp 22) ?_ gE _ [] HOW.out ?_ (some ⟨bb, bo + 16, none⟩) 4080 (c - 16) (b.drop 16) HDL.out.symm ?_ (HDR.out _ HFB.out) (by rw [HDL.out]; simp) (by have h1 := (OwnV.base HOW.out gE rfl).2; omega) ?_; rotate_left 1; (focus (simp only [List.getElem?_toArray, List.getElem?_cons_zero, List.getElem?_cons_succ]; rfl)); (focus (rw [hops.out]; rfl)); (focus rfl); (focus rfl); (focus rfl))
          intro v' x52 ho hgr hob
          rw [List.nil_append] at ho
          have hlo : ∀ k, (Value.slice (some ⟨gE, 0, none⟩) 0 0).ownBlock = some k → wst.heap.size ≤ k := fun k hk => by cases hk; exact HGE.out
          refine ⟨Below.grown (Below.refl _ _) hgr HFB.out.le hlo, ?_⟩
          intro a' ha'; simp only [Act.put, List.setIfInBounds_toArray, List.set_cons_zero, List.set_cons_succ] at ha'; subst ha'
          obtain ⟨A', c', rfl, h1, h2, h3, h4⟩ := Own.form ho
          rw [HDL.out] at ho h1 hob ⊢
          have HVP := Lib.hid (fun ad (ha : A' = some ad) => show ad.block ≠ gP from by
            subst ha
            have h5 := (Array.getElem?_eq_some_iff.1 HROW.out).1
            rcases hob with e | e <;> simp [Value.ownBlock] at e <;> have := HPE.out <;> omega)
          replace HROW := Lib.hid ((hgr.block _ (Array.getElem?_eq_some_iff.1 HROW.out).1 (fun e => by cases e; exact HPE.out rfl)).trans HROW.out)
          have HOV := Lib.hid (And.intro h3 (And.intro h1 h2))
          have HAL := Lib.hid (fun ad (ha : A' = some ad) => (h4 ad ha).2)
          replace HFB := Lib.hid (HFB.out.grown hgr hlo)
          clear ho hgr hob hlo h1 h2 h3 h4 HOW
          repeat (refine sch_take (o := ?_) (v := ?_) (a' := ?_) (at_of hops.out ?_) ?_ (fun W hW => ?_) ?_ ?_; rotate_left 3; (focus (simp only [List.getElem?_toArray, List.getElem?_cons_zero, List.getElem?_cons_succ]; rfl)); (focus (rw [hops.out]; rfl)); (focus (go_simp; with_reducible rfl)); (focus (simp only [Act.put, List.setIfInBounds_toArray, List.set_cons_zero, List.set_cons_succ]; rfl)))
          have hst := pg_store (.int .i64 (nb y3)) (.int .u32 (nb nm)) (.slice A' 4080 c') HROW.out (by simp [Value.oneCell'])
          (refine sch_storeR (o := ?_) (at_of hops.out ?_) ?_ 45 (.tmp 4) (.tmp 24) ?_ ?_ (.pointer (some ⟨gP, 0, none⟩)) (.agg #[.int .i64 (nb y3), .int .u32 (nb nm), .slice A' 4080 c']) ?_ ?_ hst (below_setRow (Below.refl _ _) HGP.out _) ?_; rotate_left 1; (focus (simp only [List.getElem?_toArray, List.getElem?_cons_zero, List.getElem?_cons_succ]; rfl)); (focus (rw [hops.out]; rfl)); (focus rfl); (focus rfl); (focus rfl); (focus rfl))
          refine sch_done ?_
          refine schB_leaf ?_
          refine sch_done ?_
          have hts := TS.tb (F := [gP]) (TB.setRow gP x52 #[.int .i64 (nb y3), .int .u32 (nb nm), .slice A' 4080 c']) (by simp)
          have HE1 := Lib.hid (setRow_heap x52 gP _ #[.int .i64 (nb y3), .int .u32 (nb nm), .slice A' 4080 c'] _ _ HROW.out)
          have HE2 := Lib.hid (hts.rd HOV.out.1 (fun ad ha hm => by simp at hm; exact HVP.out ad ha hm))
          have HE3 := Lib.hid (HFB.out.ts hts (fun y hy => by have := HGP.out; simp at hy; omega))
          clear hst hts hops
          go_wp2_with fail
          go_meet
          case rel => exact ⟨gP, A', c', rfl, HE1.out, HE2.out, HOV.out.2.1, HOV.out.2.2, HE3.out⟩
    case rest =>
      obtain ⟨gP, A', c', rfl, HE1, HE2, HE3, HE4, HE5⟩ := hcut
      have HXC := Lib.hid ((HE5.out.block _ (Array.getElem?_eq_some_iff.1 HX0.out).1).trans HX0.out)
      have HFW := Lib.hid (HF.out.trans HE5.out)
      obtain ⟨q0, q1, q2⟩ := prow3 HE1.out
      have hcw := pg_Bytes (nb y3) nm (b.drop 16) A' c' wc (by rw [HDL.out]; omega) HE2.out
      rw [HDL.out] at hcw
      generalize hrb : pgB (nb y3) nm (b.drop 16) = rb at *
      obtain ⟨ys, eb⟩ := rb
      have HRB := Lib.hid hrb
      have HC := Lib.hid hcw
      clear hcw hrb
      go_wp2_with fail
      clear q0 q1 q2
      refine HC.out.mono ?_
      rintro e w3 ⟨A9, c9, rfl, ho9, hb⟩
      have hr9 : Rd w3 A9 ys := (Own.info ho9).2.2.1
      have HR9 := Lib.hid hr9
      have HF3 := Lib.hid (HFW.out.trans hb)
      have HX3 := Lib.hid ((hb.block _ (Array.getElem?_eq_some_iff.1 HXC.out).1).trans HXC.out)
      have HP3 := Lib.hid ((hb.block _ (Array.getElem?_eq_some_iff.1 HE1.out).1).trans HE1.out)
      have HD3 := Lib.hid (hb.rd HE2.out)
      clear hb ho9 hr9 HC
      by_cases heb : eb = 0
      · subst heb
        have HQ := Lib.hid (by_Equal ys b A9 (some ⟨bb, bo, none⟩) c9 c w3 HR9.out (HF3.out.rd HR.out))
        have hq := HQ.out
        rw [HLN.out] at hq
        by_cases hyb : ys = b
        · rw [decide_eq_true hyb] at hq
          have HRQ := Lib.hid (show R = ((nb y3, nm, b.drop 16), 0) from by rw [HRR.out, if_pos ⟨HLN.out, by rw [hyb]⟩])
          have HC := Lib.hid hq
          clear hq hyb HQ
          go_wp2_with fail
          refine HC.out.mono ?_
          rintro e w4 ⟨rfl, rfl⟩
          obtain ⟨q0, q1, q2⟩ := prow3 HP3.out
          have hst := pg_store (.int .i64 (nb y3)) (.int .u32 (nb nm)) (.slice A' 4080 c') HX3.out (by simp [Value.oneCell'])
          have HROW := Lib.hid (setRow_heap _ w.heap.size _ #[.int .i64 (nb y3), .int .u32 (nb nm), .slice A' 4080 c'] _ _ HX3.out)
          have HEND := Lib.hid (HF3.out.setRow (g := w.heap.size) (Nat.le_refl _) #[.int .i64 (nb y3), .int .u32 (nb nm), .slice A' 4080 c'])
          have HRD := Lib.hid (Rd.overP HX3.out HD3.out (TS.tb (TB.setRow w.heap.size w3 #[.int .i64 (nb y3), .int .u32 (nb nm), .slice A' 4080 c']) (by simp)))
          go_wp2_with (refine wpList_store_by rfl _ _ _ rfl _ hst ?_)
          try simp only [Exit.inBlock, Exit.then]
          refine bodyPost_ret (pg_ret rfl _ w.heap.size rfl _ HROW.out) rfl ?_
          rw [HRQ.out]
          exact ⟨A', c', by simp only [HDL.out]; rfl, HRD.out, by simp only [HDL.out]; exact HE3.out, HE4.out, HEND.out⟩
        · rw [decide_eq_false hyb] at hq
          have HRQ := Lib.hid (show R = ((0, 0#32, []), 4) from by rw [HRR.out, if_neg (fun h => hyb (congrArg Prod.fst h.2))])
          have HC := Lib.hid hq
          clear hq hyb HQ
          go_wp2_with fail
          refine HC.out.mono ?_
          rintro e w4 ⟨rfl, rfl⟩
          have hst := pg_store (.int .i64 0) (.int .u32 0) (.slice none 0 0) HX3.out (by simp [Value.oneCell'])
          have HROW := Lib.hid (setRow_heap _ w.heap.size _ #[.int .i64 0, .int .u32 0, .slice none 0 0] _ _ HX3.out)
          have HEND := Lib.hid (HF3.out.setRow (g := w.heap.size) (Nat.le_refl _) #[.int .i64 0, .int .u32 0, .slice none 0 0])
          go_wp2_with (refine wpList_store_by rfl _ _ _ rfl _ hst ?_)
          try simp only [Exit.inBlock, Exit.then]
          refine bodyPost_ret (pg_ret rfl _ w.heap.size rfl _ HROW.out) rfl ?_
          rw [HRQ.out]
          exact ⟨none, 0, rfl, Rd.nil _ _, by simp, by simp [maxLen], HEND.out⟩
      · have hbeb : (eb != 0) = true := by simpa using heb
        have HRQ := Lib.hid (show R = ((0, 0#32, []), 4) from by rw [HRR.out, if_neg (fun h => heb (congrArg Prod.snd h.2))])
        clear heb
        have hst := pg_store (.int .i64 0) (.int .u32 0) (.slice none 0 0) HX3.out (by simp [Value.oneCell'])
        have HROW := Lib.hid (setRow_heap _ w.heap.size _ #[.int .i64 0, .int .u32 0, .slice none 0 0] _ _ HX3.out)
        have HEND := Lib.hid (HF3.out.setRow (g := w.heap.size) (Nat.le_refl _) #[.int .i64 0, .int .u32 0, .slice none 0 0])
        go_wp2_with (refine wpList_store_by rfl _ _ _ rfl _ hst ?_)
        try simp only [Exit.inBlock, Exit.then]
        refine bodyPost_ret (pg_ret rfl _ w.heap.size rfl _ HROW.out) rfl ?_
        rw [HRQ.out]
        exact ⟨none, 0, rfl, Rd.nil _ _, by simp, by simp [maxLen], HEND.out⟩
  · obtain rfl : R = ((0, 0#32, []), 4) := by rw [hR, if_neg (fun h => h1 h.1)]
    have hbe : ((b.length : Int) != 4096) = true := by simpa using (show ¬ (b.length : Int) = 4096 by omega)
    have hst := pg_store (.int .i64 0) (.int .u32 0) (.slice none 0 0) HX0.out (by simp [Value.oneCell'])
    have HROW := Lib.hid (setRow_heap _ w.heap.size _ #[.int .i64 0, .int .u32 0, .slice none 0 0] _ _ HX0.out)
    have HEND := Lib.hid (HF.out.setRow (g := w.heap.size) (Nat.le_refl _) #[.int .i64 0, .int .u32 0, .slice none 0 0])
    clear hR hl hc hm hr h1
    go_enter Tryd.func47, Tryd.ntmps47
    go_wp2_with (refine wpList_store_by rfl _ _ _ rfl _ hst ?_)
    try simp only [Exit.inBlock, Exit.then]
    refine bodyPost_ret (pg_ret rfl _ w.heap.size rfl _ HROW.out) rfl ?_
    exact ⟨none, 0, rfl, Rd.nil _ _, by simp, by simp [maxLen], HEND.out⟩
end Go.Proofs.YtoidlmhebnlnbaaDoor
