/- space: the walk through Bytes. -/
import Derived.Test.YtjhgnohofcahbaaSpP
import Derived.Test.YtjhgnohofcahbaaOctC
import Derived.Laws.BitsLemmas
set_option linter.unusedVariables false
set_option linter.unusedSimpArgs false
namespace Go.Proofs.Ytjhgnohofcahbaa
open Go.ChangeShapes Go.WideShapes Go.ChangeAt Go.RowKit
attribute [local go_sem] nb_nonneg nb_lt8 bits_or8
set_option maxRecDepth 100000

def spBytesR (P : Int) (us : List Bool) : List Byte × Int := if spOk P us then (spBytes P us, 0) else ([], 2)
theorem spBytes_len (P : Int) (us : List Bool) : (spBytes P us).length = 4 + (us.length + 7) / 8 := by unfold spBytes; rw [List.length_append, oword_len, spBits_len]
theorem shl1 (r : Nat) (h : r < 8) : IntKind.u8.wrap ((2 : Int) ^ r) = nb ((1#8 : BitVec 8) <<< r) := by
  match r, h with
  | 0, _ => rfl
  | 1, _ => rfl
  | 2, _ => rfl
  | 3, _ => rfl
  | 4, _ => rfl
  | 5, _ => rfl
  | 6, _ => rfl
  | 7, _ => rfl
/-- Bytes, and an error, that are returned. -/
def SpBy (r : List Byte × Int) (w : World) (e : Ending) (w' : World) : Prop :=
  ∃ A c, e = .returned (.tuple #[.slice A r.1.length c, .int .i64 r.2]) ∧ Rd w' A r.1 ∧ r.1.length ≤ c ∧ c ≤ maxLen ∧ FB w w'
set_option maxHeartbeats 2000000 in
theorem sp_Bytes (P : Int) (us : List Bool) (A : Option Addr) (c : Nat) (w : World) (hr : RdV w A (us.map .bool)) (hl : us.length ≤ 1000000000) :
    Calls Try.prog 24 #[.agg #[.int .i64 P, .slice A us.length c]] w fun e w' => SpBy (spBytesR P us) w e w' := by
  have hf := (FB.refl w).alloc (.cells #[.int .i64 P, .slice A us.length c] 41)
  have HF := Lib.hid hf
  have HR := Lib.hid hr
  have HCK := Lib.hid (sp_Check P us A c (w.alloc (.cells #[.int .i64 P, .slice A us.length c] 41)) (hf.rdV hr) (by omega))
  have HB := Lib.hid (heap_alloc_new w (.cells #[.int .i64 P, .slice A us.length c] 41))
  clear hf hr
  unfold spBytesR
  by_cases hok : spOk P us = true
  · rw [if_pos hok]
    have hch : spChk P us = 0 := by unfold spChk; rw [if_pos hok]
    rw [hch] at HCK
    have h3 := spOk_iff.1 hok
    obtain ⟨n, rfl⟩ : ∃ n : Nat, P = (n : Int) := ⟨P.toNat, by omega⟩
    have hn : us.length = n := by omega
    have hn8 : 8 ≤ n := by omega
    have hn4 : n ≤ 4096 := by omega
    have HN := Lib.hid hn
    clear h3 hch hok
    obtain ⟨L, hL⟩ : ∃ L, L = (n + 7) / 8 := ⟨_, rfl⟩
    have HL := Lib.hid hL
    have hq1 : ((n : Int) + 7).tdiv 8 = (L : Int) := by rw [Int.tdiv_eq_ediv_of_nonneg (by omega), hL]; omega
    have hq2 : ((n : Int) + 7) / 8 = (L : Int) := by rw [hL]; omega
    have hL2 : L ≤ 513 := by omega
    have hL3 : (L : Int) ≤ 513 := by omega
    obtain ⟨C, hmk, hC⟩ := mk_bytes (L : Int) L rfl (by omega)
    have HC := Lib.hid hC
    have hm : nb (BitVec.ofInt 64 (n : Int)) = (n : Int) := nb_ofInt _ (by omega) (by omega)
    have HWD := Lib.hid (fun W => by
      have := oct_Word [] none 0 0 (BitVec.ofInt 64 (n : Int)) 4 W rfl (by simp) (by simp [maxLen]) (by simp) (Rd.nil _ _)
      rw [hm, show owordZ 4 (BitVec.ofInt 64 (n : Int)) = oword 4 (BitVec.ofInt 64 (n : Int)) from rfl] at this
      exact this)
    rw [hn]
    have hnx : (n : Int) ≤ 4096 := by omega
    clear hL hC hm hn
    go_enter Try.func24, Try.ntmps24
    have HBX := HB
    rw [HN.out] at HCK HB
    go_wp2_with fail
    refine HCK.out.mono ?_
    rintro e w1 ⟨rfl, hb⟩
    have HF1 := Lib.hid (HF.out.trans (by rw [HN.out]; exact hb))
    have HB1 := Lib.hid (((by rw [HN.out]; exact hb : FB (w.alloc (.cells #[.int .i64 (n : Int), .slice A us.length c] 41)) w1).block _ (Array.getElem?_eq_some_iff.1 HBX.out).1).trans HBX.out)
    clear hb
    rw [HN.out] at HB1
    obtain ⟨q0, q1⟩ := row2 HB1.out
    have HB2 := Lib.hid (((FB.refl w1).alloc (.cells C 5)).block _ (Array.getElem?_eq_some_iff.1 HB1.out).1 |>.trans HB1.out)
    obtain ⟨r0, r1⟩ := row2 HB2.out
    have HO2 := Lib.hid (show Own (w1.alloc (.cells C 5)) w1.heap.size (.slice (some ⟨w1.heap.size, 0, none⟩) L L) (spBits us L 0) from by
      have := OwnV.lit 5 w1 (vbs (List.replicate L 0#8)) (by rw [vbs_length, List.length_replicate]; simp [maxLen]; omega)
      rw [← HC.out, vbs_length, List.length_replicate] at this
      rw [spBits_zero]; exact this)
    have HF2 := Lib.hid (HF1.out.alloc (.cells C 5))
    go_wp2_with fail
    clear hmk q0 q1 r0 r1
    generalize hw2 : w1.alloc (.cells C 5) = w2 at *
    have HSZ2 := Lib.hid (show w2.heap.size = w1.heap.size + 1 from by rw [← hw2]; simp)
    clear hw2
    have HGT := Lib.hid (show w.heap.size < w1.heap.size from (Array.getElem?_eq_some_iff.1 HB1.out).1)
    have HA2 := Lib.hid (HF2.out.rdV HR.out)
    have HAK := Lib.hid (show ∀ ad, A = some ad → ad.block < w.heap.size from fun ad ha => by
      have hlt : 0 < (us.map Value.bool).length := by rw [List.length_map, HN.out]; omega
      obtain ⟨kb, ko, e2, hk, -⟩ := RdV.form HR.out hlt
      rw [ha] at e2; cases e2; exact hk)
    go_loopw [21] (fun c21 wr => ∃ j : Nat, j ≤ n ∧ c21 = .int .i64 j ∧ Hid (Own wr w1.heap.size (.slice (some ⟨w1.heap.size, 0, none⟩) L L) (spBits us L j)) ∧ Hid (TS [w1.heap.size] w2 wr)) (fun c21 wr => n - (intOf c21).toNat)
    case atStart => exact ⟨0, by omega, rfl, HO2.out, TS.refl _ _⟩
    case round =>
      obtain ⟨j, hj, rfl, HOr, HT⟩ := hrel
      have HRr := Lib.hid (HT.out.rdV HA2.out (fun ad ha hm => by have := HAK.out ad ha; have := HGT.out; simp at hm; omega))
      by_cases hlt : j < n
      · have hlu : j < us.length := by rw [HN.out]; exact hlt
        have hjn : (j : Int) < (n : Int) := by omega
        obtain ⟨b, ob, rfl, hcb⟩ := RdV.bcell HRr.out hlu
        rw [← getD_at hlu] at hcb
        cases hu : us.getD j false
        · rw [hu] at hcb
          have HO3 := Lib.hid (show Own wr w1.heap.size (.slice (some ⟨w1.heap.size, 0, none⟩) L L) (spBits us L (j + 1)) from by rw [spBits_free hu]; exact HOr.out)
          clear hu
          go_wp2
          go_roundw
          case rel => exact ⟨j + 1, by omega, by go_num, HO3.out, HT.out⟩
          case measure => simp [intOf]; omega
        · rw [hu] at hcb
          obtain ⟨a, ha⟩ : ∃ a, a = j / 8 := ⟨_, rfl⟩
          obtain ⟨r, hr⟩ : ∃ r, r = j % 8 := ⟨_, rfl⟩
          have hd1 : (j : Int).tdiv 8 = (a : Int) := by rw [Int.tdiv_eq_ediv_of_nonneg (by omega), ha]; omega
          have hd2 : (j : Int) / 8 = (a : Int) := by rw [ha]; omega
          have hm1 : (j : Int).tmod 8 = (r : Int) := by rw [Int.tmod_eq_emod_of_nonneg (by omega), hr]; omega
          have hm2 : (j : Int) % 8 = (r : Int) := by rw [hr]; omega
          have hr8 : r < 8 := by omega
          have haL : a < L := by rw [ha, HL.out]; omega
          have hal : (a : Int) < (L : Int) := by omega
          have hal2 : (a : Int) ≤ 513 := by omega
          have hrl2 : (r : Int) < 8 := by omega
          have hwa : IntKind.i64.wrap (a : Int) = (a : Int) := by rw [IntKind.wrap_i64]; omega
          have hwr : IntKind.i64.wrap (r : Int) = (r : Int) := by rw [IntKind.wrap_i64]; omega
          have hx := spBits_used (L := L) hu (by rw [← ha]; exact haL)
          rw [← ha, ← hr] at hx
          have HX := Lib.hid hx
          have hsh := shl1 r hr8
          clear hu hx ha hr
          go_wp2_with fail
          obtain ⟨W0, hW0⟩ : ∃ W0 : World, W0 = wr := ⟨_, rfl⟩
          rw [← hW0]
          refine region_schL (E := FB) 10 ((0, true) :: (1, true) :: (2, true) :: (3, true) :: (4, true) :: (5, true) :: (6, true) :: (7, true) :: (8, true) :: (9, true) :: []) (by kernel_rfl) FB.refl fb_trans (fun _ _ d _ _ h => by cases d <;> exact h) (by kernel_rfl) ?_
          intro ops hops0
          have hops := Lib.hid hops0
          clear hops0
          have HF : FB W0 W0.drew := (FB.refl _).drew
          generalize W0.drew = wF at *
          have HFq := Lib.hid (show FB wr wF from by rw [← hW0]; exact HF)
          clear hW0 HF
          have HOq := Lib.hid (OwnV.below HOr.out HFq.out)
          obtain ⟨s0, sf, sset⟩ := OwnV.cellset HOq.out (j := a) (by rw [vbs_length, spBits_len]; exact haL)
          have hxa : (vbs (spBits us L j))[a]'(by rw [vbs_length, spBits_len]; exact haL) = .int .u8 (nb (spBt us j a)) := by
            have e := spBits_get (us := us) (k := j) haL
            rw [List.getElem?_eq_getElem (by rw [spBits_len]; exact haL)] at e
            rw [vbs_get _ _ (by rw [spBits_len]; exact haL), Option.some.inj e]; rfl
          rw [hxa] at s0
          have HS0 := Lib.hid s0
          have HSF := Lib.hid sf
          have HSS := Lib.hid sset
          clear s0 sf sset hxa
          repeat (refine sch_take (o := ?_) (v := ?_) (a' := ?_) (at_of hops.out ?_) ?_ (fun W hW => ?_) ?_ ?_; rotate_left 3; (focus (simp only [List.getElem?_toArray, List.getElem?_cons_zero, List.getElem?_cons_succ]; rfl)); (focus (rw [hops.out]; rfl)); (focus (have u2 := FB.cell hW HS0.out; go_simp; with_reducible rfl)); (focus (simp only [Act.put, List.setIfInBounds_toArray, List.set_cons_zero, List.set_cons_succ]; rfl)))
          repeat (refine sch_take (o := ?_) (v := ?_) (a' := ?_) (at_of hops.out ?_) ?_ (fun W hW => ?_) ?_ ?_; rotate_left 3; (focus (simp only [List.getElem?_toArray, List.getElem?_cons_zero, List.getElem?_cons_succ]; rfl)); (focus (rw [hops.out]; rfl)); (focus (have u2 := FB.cell hW HS0.out; go_simp; with_reducible rfl)); (focus (simp only [Act.put, List.setIfInBounds_toArray, List.set_cons_zero, List.set_cons_succ]; rfl)))
          have u3 := HS0.out
          have u4 := HSF.out
          (refine schL_store (o := ?_) (w' := wF.setCell ⟨w1.heap.size, a, none⟩ (.int .u8 (nb (spBt us j a ||| ((1#8 : BitVec 8) <<< r))))) (at_of hops.out ?_) ?_ 5 (.tmp 36) (.tmp 35) ?_ (.pointer (some ⟨w1.heap.size, a, none⟩)) (.int .u8 (nb (spBt us j a ||| ((1#8 : BitVec 8) <<< r)))) ?_ ?_ ?_ ?_; rotate_left 1; (focus (simp only [List.getElem?_toArray, List.getElem?_cons_zero, List.getElem?_cons_succ]; rfl)); (focus (rw [hops.out]; rfl)); (focus rfl); (focus rfl); (focus rfl); (focus (go_simp)))
          have HO3 := Lib.hid (show Own (wF.setCell ⟨w1.heap.size, a, none⟩ (.int .u8 (nb (spBt us j a ||| ((1#8 : BitVec 8) <<< r))))) w1.heap.size (.slice (some ⟨w1.heap.size, 0, none⟩) L L) (spBits us L (j + 1)) from by
            rw [HX.out]
            have := HSS.out (.int .u8 (nb (spBt us j a ||| ((1#8 : BitVec 8) <<< r))))
            unfold Own
            rw [show vbs ((spBits us L j).set a (spBt us j a ||| ((1#8 : BitVec 8) <<< r))) = (vbs (spBits us L j)).set a (vb (spBt us j a ||| ((1#8 : BitVec 8) <<< r))) from by unfold vbs; rw [List.map_set]]
            exact this)
          have HT2 := Lib.hid ((HT.out.then (TS.of HFq.out)).then (show TS [w1.heap.size] wF (wF.setCell ⟨w1.heap.size, a, none⟩ (.int .u8 (nb (spBt us j a ||| ((1#8 : BitVec 8) <<< r))))) from TS.tb (TB.set wF a _) (by simp)))
          clear u3 u4 hops hsh
          go_wp2
          go_roundw
          case rel => exact ⟨j + 1, by omega, by go_num, HO3.out, HT2.out⟩
          case measure => simp [intOf]; omega
      · obtain rfl : j = n := by omega
        have HBr := Lib.hid ((HT.out.block _ (by have := HSZ2.out; have := HGT.out; omega) (by have := HGT.out; simp; omega)).trans HB2.out)
        obtain ⟨q0, q1⟩ := row2 HBr.out
        have HFr := Lib.hid (FB.ts HF2.out HT.out (fun x hx => by have := HGT.out; simp at hx; omega))
        have hjj : ¬ (j : Int) < (j : Int) := by omega
        go_wp2_with fail
        refine (HWD.out _).mono ?_
        rintro e w3 ⟨v3, rfl, ho, hb⟩
        have HF3 := Lib.hid (HFr.out.call hb)
        have HO3 := Lib.hid (Own.lower ho HFr.out.le)
        have HR3 := Lib.hid (Rd.below (Own.info HOr.out).2.2.1 hb)
        clear ho hb q0 q1
        go_wp2_with (at_builtin; refine wpList_append_bytes rfl _ _ rfl w.heap.size _ _ HO3.out rfl (some ⟨w1.heap.size, 0, none⟩) L (spBits us L j) (by rw [spBits_len]; rfl) HR3.out (by rw [List.nil_append, spBits_len, oword_len]; omega) HF3.out.le ?_; intro v' w4 ho hg _; have HO4 := Lib.hid ho; have HG4 := Lib.hid hg; clear ho hg)
        go_ret2
        obtain ⟨A4, c4, rfl, h1, h2, h3, -⟩ := Own.form HO4.out
        have hE : spBytes (j : Int) us = [] ++ oword 4 (BitVec.ofInt 64 (j : Int)) ++ spBits us L j := by unfold spBytes; rw [HN.out, List.nil_append, ← HL.out]
        unfold SpBy
        rw [hE]
        exact ⟨A4, c4, rfl, h3, h1, h2, HF3.out.grown HG4.out (Own.bnd HO3.out)⟩
  · rw [if_neg hok]
    have hch : spChk P us = 2 := by unfold spChk; rw [if_neg hok]
    rw [hch] at HCK
    clear hch hok
    go_enter Try.func24, Try.ntmps24
    go_wp2_with fail
    refine HCK.out.mono ?_
    rintro e w1 ⟨rfl, hb⟩
    have HF1 := Lib.hid (HF.out.trans hb)
    clear hb
    go_wp2
    go_ret2
    exact ⟨none, 0, rfl, Rd.nil _ _, by simp, by simp [maxLen], HF1.out⟩
end Go.Proofs.Ytjhgnohofcahbaa
