/- Walks and laws that the claim's last text stands on, several texts in one file: EnP, ChainEndsW. Under the hypotheses that each theorem states. -/
import Derived.Test.YtoidlmhebnlnbaaDoorMCha
import Derived.Test.YtoidlmhebnlnbaaDoorMChb
import Derived.Test.YtoidlmhebnlnbaaDoorMChc
import Derived.Test.YtoidlmhebnlnbaaDoorMChd
import Derived.Test.YtoidlmhebnlnbaaDoorMChe
import Derived.Test.YtoidlmhebnlnbaaDoorMChf
import Derived.Test.YtoidlmhebnlnbaaDoorMChg
import Derived.Test.YtoidlmhebnlnbaaDoorMChh
import Derived.Test.YtoidlmhebnlnbaaDoorMChi
import Derived.Test.YtoidlmhebnlnbaaDoorMChj
import Derived.Test.YtoidlmhebnlnbaaDoorMChk
import Derived.Test.YtoidlmhebnlnbaaDoorMChl
import Derived.Test.YtoidlmhebnlnbaaDoorMChm
import Derived.Test.YtoidlmhebnlnbaaDoorMChn
import Derived.Test.YtoidlmhebnlnbaaDoorMCho
import Derived.Test.YtoidlmhebnlnbaaDoorMChp
import Derived.Test.YtoidlmhebnlnbaaDoorMChq
import Derived.Test.YtoidlmhebnlnbaaDoorMChr
import Derived.Test.YtoidlmhebnlnbaaDoorMChs
import Derived.Test.YtoidlmhebnlnbaaDoorMCht
/- ChainEnds, plain: reading ends, and what it returns. -/
set_option linter.unusedVariables false
set_option linter.unusedSimpArgs false
namespace Go.Proofs.YtoidlmhebnlnbaaDoor
open Go.ChangeShapes Go.WideShapes Go.ChangeAt Go.RowKit

section
variable {n : Nat} {kind most : Int}
theorem chRd_inv : ∀ (f i : Nat) (seen : List Int) (head : Int) (st : PlSt), PlInv n st → PlInv n (chRd n kind most f i seen head st).2 := by
  intro f
  induction f with
  | zero => intro i seen head st h; exact h
  | succ f ih =>
    intro i seen head st h
    have hg := (plGet_inv h head).1
    rw [chRd]
    split
    · split
      · split
        · exact hg
        · exact ih _ _ _ _ hg
      · exact hg
    · exact hg
theorem chRead_inv {head : Int} {st : PlSt} (h : PlInv n st) : PlInv n (chRead n kind head most st).2 := by
  unfold chRead
  split
  · split
    · exact chRd_inv _ _ _ _ _ h
    · exact chRd_inv _ _ _ _ _ h
  · exact h
/-- A chain that was read: pages that occur once; all full but the last. -/
def EnOk (most : Int) (seen : List Int) (i : Nat) (l : List (Int × List Byte)) : Prop :=
  1 ≤ l.length ∧ (i + l.length : Int) ≤ most ∧ (seen ++ l.map (·.1)).Nodup ∧ (∀ j (hj : j < l.length), j + 1 < l.length → l[j].2.length = 4074) ∧ (∀ j (hj : j < l.length), l[j].2.length ≤ 4074) ∧ (∀ j (hj : j < l.length), 0 < i + j → l[j].2.length ≠ 0)
theorem chBs_len {bs : List Byte} (h : (pgR bs).2 = 0) (hl : chLn (pgR bs).1.2.2 ≤ 4074) : (chBs (pgR bs).1.2.2).length = chLn (pgR bs).1.2.2 := by
  unfold chBs
  rw [List.length_take, List.length_drop, pgR_body h]
  omega
theorem chRd_ends : ∀ (f i : Nat) (seen : List Int) (head : Int) (st : PlSt), seen.Nodup → head ∉ seen → (chRd n kind most f i seen head st).1.2 = 0 → EnOk most seen i (chRd n kind most f i seen head st).1.1 := by
  intro f
  induction f with
  | zero => intro i seen head st _ _ h; simp [chRd] at h
  | succ f ih =>
    intro i seen head st hn hh h
    have hn2 : (seen ++ [head]).Nodup := by
      rw [List.nodup_append]
      refine ⟨hn, by simp, fun a ha b hb => ?_⟩
      simp only [List.mem_singleton] at hb
      subst hb
      exact fun e => hh (e ▸ ha)
    rw [chRd] at h ⊢
    by_cases h1 : (plGet n st head).1.2 = 0
    case neg => rw [if_neg h1] at h; exact absurd h h1
    rw [if_pos h1] at h ⊢
    by_cases h2 : chGood kind i most (seen ++ [head]) (plGetB n st head)
    case neg => rw [if_neg h2] at h; simp at h
    rw [if_pos h2] at h ⊢
    obtain ⟨g1, g2, g3, g4, g5, g6, g7, g8, g9, g10⟩ := h2
    have hl := chBs_len g1 g5
    by_cases h3 : chNx (pgR (plGetB n st head)).1.2.2 = 0
    · rw [if_pos h3]
      refine ⟨by simp, by simp; omega, by simpa using hn2, fun j hj hj2 => by simp at hj2, fun j hj => ?_, fun j hj h0 => ?_⟩
      · obtain rfl : j = 0 := by simp at hj; omega
        simp only [List.getElem_cons_zero]
        rw [hl]; exact g5
      · obtain rfl : j = 0 := by simp at hj; omega
        simp only [List.getElem_cons_zero]
        rw [hl]
        intro e
        exact g7 ⟨h3, e, by omega⟩
    · rw [if_neg h3] at h ⊢
      simp only at h
      obtain ⟨q1, q2, q3, q4, q5, q6⟩ := ih (i + 1) (seen ++ [head]) (chNx (pgR (plGetB n st head)).1.2.2 : Nat) (plGet n st head).2 hn2 g9 h
      have hfull := g6 h3
      simp only
      generalize (chRd n kind most f (i + 1) (seen ++ [head]) (chNx (pgR (plGetB n st head)).1.2.2 : Nat) (plGet n st head).2).1.1 = l at *
      refine ⟨by simp, by rw [List.length_cons]; push_cast at q2 ⊢; omega, by simpa using q3, fun j hj hj2 => ?_, fun j hj => ?_, fun j hj h0 => ?_⟩
      · cases j with
        | zero => simp only [List.getElem_cons_zero]; rw [hl]; exact hfull
        | succ j => simp only [List.getElem_cons_succ]; exact q4 j (by simpa using hj) (by simpa using hj2)
      · cases j with
        | zero => simp only [List.getElem_cons_zero]; rw [hl]; exact g5
        | succ j => simp only [List.getElem_cons_succ]; exact q5 j (by simpa using hj)
      · cases j with
        | zero => simp only [List.getElem_cons_zero]; rw [hl, hfull]; decide
        | succ j => simp only [List.getElem_cons_succ]; exact q6 j (by simpa using hj) (by omega)
end
theorem EnOk.sum : ∀ (l : List (Int × List Byte)), (∀ j (hj : j < l.length), j + 1 < l.length → l[j].2.length = 4074) → (∀ j (hj : j < l.length), l[j].2.length ≤ 4074) → 1 ≤ l.length → 4074 * (l.length - 1) ≤ (l.flatMap (·.2)).length ∧ (l.flatMap (·.2)).length ≤ 4074 * l.length ∧ ((l.flatMap (·.2)).length = 4074 * (l.length - 1) → ∃ j, ∃ hj : j < l.length, j + 1 = l.length ∧ l[j].2.length = 0) := by
  intro l
  induction l with
  | nil => intro _ _ h; simp at h
  | cons x l ih =>
    intro h1 h2 _
    rw [List.flatMap_cons, List.length_append]
    have hc : (x :: l).length = l.length + 1 := rfl
    by_cases hl : l.length = 0
    · obtain rfl := List.eq_nil_of_length_eq_zero hl
      have := h2 0 (by simp)
      simp only [List.getElem_cons_zero] at this
      have hz : (([] : List (Int × List Byte)).flatMap (·.2)).length = 0 := rfl
      have hz2 : ([] : List (Int × List Byte)).length = 0 := rfl
      refine ⟨by omega, by omega, fun e => ⟨0, by simp, by simp, ?_⟩⟩
      simp only [List.getElem_cons_zero]; omega
    · have hx := h1 0 (by simp) (by simp; omega)
      simp only [List.getElem_cons_zero] at hx
      obtain ⟨a, b, c⟩ := ih (fun j hj hj2 => by have := h1 (j + 1) (by simp; omega) (by simp; omega); simpa using this) (fun j hj => by have := h2 (j + 1) (by simp; omega); simpa using this) (by omega)
      refine ⟨by omega, by omega, fun e => ?_⟩
      obtain ⟨j, hj, e1, e2⟩ := c (by omega)
      exact ⟨j + 1, by simp; omega, by simp; omega, by simpa using e2⟩
/-- What is asked of a chain that was read. -/
theorem chRead_ends {n : Nat} {kind head most : Int} {st : PlSt} (b : List Byte) (l : List Int) (e : Int) (h : (chRead n kind head most st).1 = (b, l, e)) :
    (e ≠ 0 → b = [] ∧ l = []) ∧ (e = 0 → l.Nodup ∧ (l.length : Int) ≤ most ∧ 1 ≤ l.length ∧ chNeed b.length = l.length) := by
  unfold chRead at h
  split at h
  · split at h
    · rename_i h1 h2
      simp only [Prod.mk.injEq] at h
      obtain ⟨rfl, rfl, rfl⟩ := h
      refine ⟨fun h => absurd rfl h, fun _ => ?_⟩
      obtain ⟨q1, q2, q3, q4, q5, q6⟩ := chRd_ends (n := n) (kind := kind) (most := most) (chFuel most) 0 [] head st (by simp) (by simp) h2
      generalize (chRd n kind most (chFuel most) 0 [] head st).1.1 = l at *
      obtain ⟨a, b, c⟩ := EnOk.sum l q4 q5 q1
      refine ⟨by simpa using q3, by rw [List.length_map]; omega, by rw [List.length_map]; exact q1, ?_⟩
      rw [List.length_map, chNeed_nat]
      congr 1
      by_cases hl : l.length = 1
      · omega
      · have : (l.flatMap (·.2)).length ≠ 4074 * (l.length - 1) := fun e => by
          obtain ⟨j, hj, e1, e2⟩ := c e
          exact q6 j hj (by omega) e2
        omega
    · rename_i h1 h2
      simp only [Prod.mk.injEq] at h
      obtain ⟨rfl, rfl, rfl⟩ := h
      exact ⟨fun _ => ⟨rfl, rfl⟩, fun e => absurd e h2⟩
  · simp only [Prod.mk.injEq] at h
    obtain ⟨rfl, rfl, rfl⟩ := h
    exact ⟨fun _ => ⟨rfl, rfl⟩, fun e => by simp at e⟩
end Go.Proofs.YtoidlmhebnlnbaaDoor
/- The walk through ChainEnds. -/
set_option linter.unusedVariables false
set_option linter.unusedSimpArgs false
namespace Go.Proofs.YtoidlmhebnlnbaaDoor
open Go.ChangeShapes Go.WideShapes Go.ChangeAt Go.RowKit
attribute [local go_sem] nb_nonneg nb_lt8 nb_lt64
set_option maxRecDepth 100000

theorem u8_wrap (z : Int) : IntKind.u8.wrap z = nb (BitVec.ofInt 8 z) := by
  rw [IntKind.wrap_u8]; unfold nb; rw [BitVec.toNat_ofInt]; omega
/-- A body of seven bytes. -/
def enB (tt size hi : Int) : List Byte := [BitVec.ofInt 8 tt, 0#8, 0#8, 0#8, BitVec.ofInt 8 size, BitVec.ofInt 8 hi, 7#8]
set_option maxHeartbeats 8000000 in
theorem chainEnds_walk (A : Option Addr) (ca : Nat) (zs : List Int) (B : Option Addr) (cb : Nat) (ys : List Int) (alike : Bool) (limit : Int) (w : World) (hca : zs.length ≤ ca) (hma : ca ≤ maxLen) (hra : RdV w A (zs.map (.int .i64))) (_ : ∀ z ∈ zs, -9223372036854775808 ≤ z ∧ z ≤ 9223372036854775807) (hcb : ys.length ≤ cb) (hmb : cb ≤ maxLen) (hrb : RdV w B (ys.map (.int .i64))) (_ : ∀ z ∈ ys, -9223372036854775808 ≤ z ∧ z ≤ 9223372036854775807)
    (ht : -9223372036854775808 ≤ limit ∧ limit ≤ 9223372036854775807) :
    Calls Tryd.prog 4 #[.slice A zs.length ca, .slice B ys.length cb, .bool alike, .int .i64 limit] w fun e w' => e = .returned (.bool true) ∧ Below w.heap.size w w' := by
  have HA := Lib.hid hra
  have HB := Lib.hid hrb
  have HAC := Lib.hid (And.intro hca hcb)
  clear hca hma hra hcb hmb hrb ht
  have hmk := @run_makeMap Tryd.prog
  go_enter Tryd.func4, Tryd.ntmps4
  go_wp2_with fail
  refine (law9_lives w).mono ?_
  rintro e w1 ⟨rfl, hb⟩
  have HF1 := Lib.hid hb
  clear hb
  by_cases h1 : zs.length ≤ 20
  case neg =>
    have h1b : (20 : Int) < (zs.length : Int) := by omega
    clear h1
    go_wp2
    go_ret
    exact ⟨rfl, HF1.out⟩
  have h1b : ¬ (20 : Int) < (zs.length : Int) := by omega
  have H1 := Lib.hid h1
  clear h1
  by_cases h2 : ys.length ≤ 20
  case neg =>
    have h2b : (20 : Int) < (ys.length : Int) := by omega
    clear h2
    go_wp2
    go_ret
    exact ⟨rfl, HF1.out⟩
  have h2b : ¬ (20 : Int) < (ys.length : Int) := by omega
  have H2 := Lib.hid h2
  clear h2
  go_wp2_with fail
  clear h1b h2b
  refine (dsk_New_ok 240 (by omega) (by omega) w1).mono ?_
  rintro e w3 ⟨F, g, rfl, hd, hf, hn⟩
  have HD := Lib.hid hd
  have HF := Lib.hid (HF1.out.trans hf)
  have HN := Lib.hid (fun x hx => Nat.le_trans HF1.out.le (hn x hx))
  clear hd hf hn HF1
  go_wp2_with fail
  refine (po_New HD.out HN.out HF.out 8 (by omega) (by omega) (by omega)).mono ?_
  rintro e w4 ⟨gp, gf, rfl, hp⟩
  have HP := Lib.hid (show PoA w [] g 240 gp gf (ch0 240) w4 from hp)
  clear hp HD HF HN
  go_wp2_with fail
  go_loopw [13] (fun s13 wr => ∃ (k : Nat) (st : PlSt), k ≤ zs.length ∧ s13 = .int .i64 k ∧ Hid (PoA w [] g 240 gp gf st wr) ∧ Hid (PlInv 240 st ∧ PlNP st)) (fun s13 _ => zs.length - (intOf s13).toNat)
  case atStart => exact ⟨0, ch0 240, by omega, rfl, HP, Lib.hid ⟨ch0_inv 240, ch0_np 240⟩⟩
  case round =>
    clear HP
    obtain ⟨k, st, hk, rfl, HP, HI⟩ := hrel
    by_cases hlt : k < zs.length
    · have hkx : (k : Int) < (zs.length : Int) := by omega
      have HLT := Lib.hid hlt
      clear hlt hk
      go_upto_if 56 with fail
      go_cut [14] from 53 to 61 (fun s14 wx => ∃ size : Int, s14 = .int .i64 size ∧ wx = wr ∧ Hid (0 ≤ size ∧ size < 5000))
      case first =>
        by_cases hy : k < ys.length
        · have hky : (k : Int) < (ys.length : Int) := by omega
          obtain ⟨pb, po, rfl, -, hcell⟩ := RdV.form (HP.out.fb.rdV HB.out) (by simp; omega)
          have hpj := hcell k (by simpa using hy)
          rw [List.getElem_map] at hpj
          generalize ys[k] = y at *
          have hpr := pick_range y 5000 (by omega)
          clear hcell
          go_wp2_with fail
          refine (kit_Pick y 5000 wr (by omega) (by omega)).mono ?_
          rintro e w5 ⟨rfl, rfl⟩
          go_wp2_with fail
          go_meet
          exact ⟨pick y 5000, rfl, rfl, Lib.hid hpr⟩
        · have hky : ¬ (k : Int) < (ys.length : Int) := by omega
          go_wp2_with fail
          go_meet
          exact ⟨4074, rfl, rfl, Lib.hid (by omega)⟩
      case rest =>
        obtain ⟨size, rfl, rfl, HSZ⟩ := hcut
        obtain ⟨pb, po, hAeq, -, hcell⟩ := RdV.form (HP.out.fb.rdV HA.out) (by simp; have := HLT.out; omega)
        have hpj := hcell k (by simpa using HLT.out)
        rw [List.getElem_map] at hpj
        subst hAeq
        generalize zs[k]'(HLT.out) = z at *
        have hpr := pick_range z 30 (by omega)
        clear hcell
        go_wp2_with fail
        refine (kit_Pick z 30 wc (by omega) (by omega)).mono ?_
        rintro e w5 ⟨rfl, rfl⟩
        obtain ⟨tt, htt⟩ : ∃ tt, tt = pick z 30 := ⟨_, rfl⟩
        rw [← htt] at hpr ⊢
        clear htt
        obtain ⟨x1, hx1⟩ : ∃ x : Byte, IntKind.u8.wrap tt = nb x := ⟨_, u8_wrap tt⟩
        obtain ⟨x2, hx2⟩ : ∃ x : Byte, IntKind.u8.wrap size = nb x := ⟨_, u8_wrap size⟩
        obtain ⟨x3, hx3⟩ : ∃ x : Byte, IntKind.u8.wrap (size / 256) = nb x := ⟨_, u8_wrap _⟩
        obtain ⟨hs0, hs1⟩ := HSZ.out
        go_upto_if 77 with fail
        have HR7 := Lib.hid (show Rd (wc.alloc (.cells #[.int .u8 (nb x1), .int .u8 0, .int .u8 0, .int .u8 0, .int .u8 (nb x2), .int .u8 (nb x3), .int .u8 7] 5)) (some ⟨wc.heap.size, 0, none⟩) [x1, 0#8, 0#8, 0#8, x2, x3, 7#8] from RdV.lit wc (vbs [x1, 0#8, 0#8, 0#8, x2, x3, 7#8]) 5 rfl)
        have HP7 := Lib.hid ((HP.out.byFB ((FB.refl wc).alloc (.cells #[.int .u8 (nb x1), .int .u8 0, .int .u8 0, .int .u8 0, .int .u8 (nb x2), .int .u8 (nb x3), .int .u8 7] 5))).1)
        obtain ⟨xs, hxs⟩ : ∃ xs, xs = [x1, 0#8, 0#8, 0#8, x2, x3, 7#8] := ⟨_, rfl⟩
        have hxl : xs.length = 7 := by rw [hxs]; rfl
        rw [← hxs] at HR7
        have HXL := Lib.hid hxl
        obtain ⟨gb, hgb⟩ : ∃ gb, gb = wc.heap.size := ⟨_, rfl⟩
        rw [← hgb] at HR7 ⊢
        generalize wc.alloc (.cells #[.int .u8 (nb x1), .int .u8 0, .int .u8 0, .int .u8 0, .int .u8 (nb x2), .int .u8 (nb x3), .int .u8 7] 5) = w6 at *
        have hk20 : k < 20 := by have := HLT.out; have := H1.out; omega
        have hk32 : (k : Int) = nb (BitVec.ofNat 32 k) := (nb_ofNat k (by omega)).symm
        have HK32 := Lib.hid hk32
        have HK20 := Lib.hid hk20
        clear hxs hgb hx1 hx2 hx3 hs0 hs1 hpr hpj HP hk32 hk20 hxl
        go_cut [17] from 77 to 78 (fun s17 wx => ∃ num : BitVec 32, s17 = .int .u32 (nb num) ∧ wx = w6)
        case first =>
          cases alike with
          | true =>
            go_wp2_with fail
            go_meet
            exact ⟨0#32, rfl, rfl⟩
          | false =>
            go_wp2_with fail
            go_meet
            exact ⟨BitVec.ofNat 32 k, by rw [← HK32.out], rfl⟩
        case rest =>
          obtain ⟨num, rfl, rfl⟩ := hcut
          have hc := r5_Bytes 7 num xs (some ⟨gb, 0, none⟩) 7 wc (by have := HXL.out; omega) HR7.out
          have hpb : pgB 7 num xs = (pgBytes (BitVec.ofInt 8 7) num xs, 0) := by unfold pgB; rw [if_pos (pgOk_iff.2 ⟨by omega, by omega, by have := HXL.out; omega⟩)]
          have HPL := Lib.hid (pgBytes_len (BitVec.ofInt 8 7) num (x := xs) (by have := HXL.out; omega))
          rw [hpb, HXL.out] at hc
          have HC := Lib.hid hc
          clear hc hpb
          generalize pgBytes (BitVec.ofInt 8 7) num xs = pg at *
          go_wp2_with fail
          refine HC.out.mono ?_
          rintro e w7 ⟨A7, c7, rfl, ho, hb⟩
          simp only at ho
          rw [HPL.out] at ho ⊢
          obtain ⟨gr, e1, e2, e3⟩ := OwnV.head0 ho (by rw [vbs_length, HPL.out]; omega)
          subst e1
          have HP8 := Lib.hid (HP7.out.add hb gr e2 e3)
          have hcp := po_Put HP8.out (2 + (k : Int)) (some ⟨gr, 0, none⟩) c7 pg (by rw [HPL.out]; omega) ho.info.2.2.1 (fun ad ha => by cases ha; exact .inl (by simp))
          rw [HPL.out] at hcp
          have HCP := Lib.hid hcp
          have HPN := Lib.hid (plPut_np HI.out.1 HI.out.2 (k := 2 + k) (by have := HK20.out; omega) HPL.out)
          rw [show ((2 + k : Nat) : Int) = 2 + (k : Int) from by omega] at HPN
          generalize plPut 240 st (2 + (k : Int)) pg = S at *
          obtain ⟨se, st2⟩ := S
          obtain rfl : se = 0 := HPN.out.1
          have hw1 : IntKind.i64.wrap (2 + (k : Int)) = 2 + (k : Int) := by rw [IntKind.wrap_i64]; have := HK20.out; omega
          have hw2 : IntKind.i64.wrap ((k : Int) + 1) = (k : Int) + 1 := by rw [IntKind.wrap_i64]; have := HK20.out; omega
          clear ho hb e2 e3 hcp HC HR7 HP7
          go_wp2_with fail
          refine HCP.out.mono ?_
          rintro e w9 ⟨rfl, hp, -⟩
          have HP9 := Lib.hid (hp.fewer (K' := []) (by simp))
          clear hp HCP HP8
          go_wp2_with fail
          go_roundw
          case rel => exact ⟨k + 1, st2, by have := HLT.out; omega, by go_num, HP9, Lib.hid ⟨HPN.out.2.1, HPN.out.2.2.1⟩⟩
          case measure => (show zs.length - ((k : Int) + 1).toNat < zs.length - ((k : Int)).toNat; have := HLT.out; omega)
    · have hkx : ¬ (k : Int) < (zs.length : Int) := by omega
      clear hlt hk
      have HIV := Lib.hid HI.out.1
      go_wp2_with fail
      have hpr := pick_range limit 30 (by omega)
      refine (kit_Pick limit 30 wr (by omega) (by omega)).mono ?_
      rintro e w5 ⟨rfl, rfl⟩
      obtain ⟨lim, hlim⟩ : ∃ lim, lim = pick limit 30 := ⟨_, rfl⟩
      rw [← hlim] at hpr ⊢
      have HLM := Lib.hid hpr
      clear hlim hpr hkx HI
      generalize wr = wa at *
      go_wp2_with fail
      go_loopw [20] (fun s20 wr => ∃ (i : Nat) (st : PlSt), i ≤ zs.length ∧ s20 = .int .i64 i ∧ Hid (PoA w [] g 240 gp gf st wr) ∧ Hid (PlInv 240 st)) (fun s20 _ => zs.length - (intOf s20).toNat)
      case atStart => exact ⟨0, st, by omega, rfl, HP, HIV⟩
      case round =>
        clear HP HIV
        obtain ⟨i, st, hi, rfl, HP, HIV⟩ := hrel
        by_cases hlt : i < zs.length
        · have hix : (i : Int) < (zs.length : Int) := by omega
          have hw1 : IntKind.i64.wrap (2 + (i : Int)) = 2 + (i : Int) := by rw [IntKind.wrap_i64]; have := H1.out; omega
          have hw2 : IntKind.i64.wrap ((i : Int) + 1) = (i : Int) + 1 := by rw [IntKind.wrap_i64]; have := H1.out; omega
          have HLT := Lib.hid hlt
          have HC := Lib.hid (ch_Read HP.out HIV.out (by simp) 7 (2 + (i : Int)) lim (by have := HLM.out; omega))
          have HI2 := Lib.hid (chRead_inv (kind := 7) (most := lim) (head := 2 + (i : Int)) HIV.out)
          have hen := fun b l e => chRead_ends (n := 240) (kind := 7) (head := 2 + (i : Int)) (most := lim) (st := st) b l e
          generalize chRead 240 7 (2 + (i : Int)) lim st = S at *
          obtain ⟨⟨b, l, ec⟩, st2⟩ := S
          have HE := Lib.hid (hen b l ec rfl)
          simp only at HC HI2
          clear hen hlt hi
          go_wp2_with fail
          refine HC.out.mono ?_
          rintro e w6 ⟨A6, c6, B6, d6, rfl, hrb, hrl, -, -, -, -, hp, -⟩
          simp only at hrb hrl hp ⊢
          have HP6 := Lib.hid (hp.fewer (K' := []) (by simp))
          have HRL := Lib.hid hrl
          clear hrb hrl hp HC HP
          by_cases hec : ec = 0
          case neg =>
            obtain ⟨rfl, rfl⟩ := HE.out.1 hec
            have heb : (ec != 0) = true := by simpa using hec
            clear hec
            go_wp2_with fail
            go_roundw
            case rel => exact ⟨i + 1, st2, by have := HLT.out; omega, by go_num, HP6, HI2⟩
            case measure => (show zs.length - ((i : Int) + 1).toNat < zs.length - ((i : Int)).toNat; have := HLT.out; omega)
          subst hec
          obtain ⟨n1, n2, n3, n4⟩ := HE.out.2 rfl
          have HNL := Lib.hid (And.intro n1 (And.intro n2 (And.intro n3 n4)))
          have HM0 := Lib.hid (MapAt.new w6)
          have HF0 := Lib.hid ((FB.refl w6).alloc (.map #[] 0))
          clear n1 n2 n3 n4 HE
          go_wp2_with fail
          obtain ⟨gm, hgm⟩ : ∃ gm, gm = w6.heap.size := ⟨_, rfl⟩
          have HGM := Lib.hid hgm
          rw [← hgm] at HM0 ⊢
          generalize w6.alloc (.map #[] 0) = w7 at *
          clear hgm
          go_loopw [25] (fun s25 wr => ∃ j : Nat, j ≤ l.length ∧ s25 = .int .i64 j ∧ Hid (MapAt wr gm (chMp (l.take j))) ∧ Hid (FB w6 wr)) (fun s25 _ => l.length - (intOf s25).toNat)
          case atStart => exact ⟨0, by omega, rfl, HM0, HF0⟩
          case round =>
            clear HM0 HF0
            obtain ⟨j, hj, rfl, HM, HF⟩ := hrel
            by_cases hlt : j < l.length
            · have hjx : (j : Int) < (l.length : Int) := by omega
              obtain ⟨pb, po, hBeq, -, hcell⟩ := RdV.form (HF.out.rdV HRL.out) (by simp; omega)
              subst hBeq
              have hpj := hcell j (by simpa using hlt)
              rw [List.getElem_map] at hpj
              have HTK := Lib.hid (show l.take (j + 1) = l.take j ++ [l[j]] from by rw [List.take_add_one, List.getElem?_eq_getElem hlt]; rfl)
              have hnm : l[j] ∉ l.take j := fun hm => by
                obtain ⟨q, hq, e⟩ := List.mem_take_iff_getElem.1 hm
                exact List.pairwise_iff_getElem.1 HNL.out.1 q j (by omega) hlt (by omega) e
              have HJL := Lib.hid hlt
              generalize l[j]'(hlt) = x at *
              have hlk := map_lookup Tryd.underlying47 Tryd.underlying3 HM.out x false (zeroI wr)
              rw [chMp_get, if_neg hnm] at hlk
              have hlk2 : (Instr.lookup 47 (.map (some gm)) (.int .i64 x) false).run Tryd.prog wr = .ok (.int .i64 0) wr := hlk
              obtain ⟨w8, hup, hm2, ht2⟩ := map_update Tryd.underlying47 Tryd.underlying3 HM.out x (.int .i64 1)
              rw [chMp_put _ _ hnm, ← HTK.out] at hm2
              have HM2 := Lib.hid hm2
              have HF2 := Lib.hid (HF.out.tb ht2 (by rw [HGM.out]; exact Nat.le_refl _))
              have hwj : IntKind.i64.wrap ((j : Int) + 1) = (j : Int) + 1 := by rw [IntKind.wrap_i64]; have := HNL.out.2.1; have := HLM.out; have := HJL.out; omega
              clear hlk hm2 ht2 hcell hnm hlt hj
              go_wp2_with fail
              go_roundw
              case rel => exact ⟨j + 1, by have := HJL.out; omega, by go_num, HM2, HF2⟩
              case measure => (show l.length - ((j : Int) + 1).toNat < l.length - ((j : Int)).toNat; have := HJL.out; omega)
            · have hjx : ¬ (j : Int) < (l.length : Int) := by omega
              have hl1 : ¬ lim < (l.length : Int) := by have := HNL.out.2.1; omega
              have hl2 : ((l.length : Int) == 0) = false := by rw [beq_eq_false_iff_ne]; have := HNL.out.2.2.1; omega
              have HND := Lib.hid (fun W => ch_Need (b.length : Int) W (by have h1 := HNL.out.2.1; have h2 := HLM.out; have h3 := HNL.out.2.2.2; unfold chNeed at h3; omega))
              rw [HNL.out.2.2.2] at HND
              have HPW := Lib.hid ((HP6.out.byFB HF.out).1)
              clear hlt hj HM
              go_wp2_with fail
              refine (HND.out _).mono ?_
              rintro e w9 ⟨rfl, rfl⟩
              have hne : ((l.length : Int) != (l.length : Int)) = false := by simp
              go_wp2_with fail
              go_roundw
              case rel => exact ⟨i + 1, st2, by have := HLT.out; omega, by go_num, HPW, HI2⟩
              case measure => (show zs.length - ((i : Int) + 1).toNat < zs.length - ((i : Int)).toNat; have := HLT.out; omega)
        · have hix : ¬ (i : Int) < (zs.length : Int) := by omega
          clear hlt hi
          go_wp2_with fail
          go_ret
          exact ⟨rfl, HP.out.fb⟩
end Go.Proofs.YtoidlmhebnlnbaaDoor
