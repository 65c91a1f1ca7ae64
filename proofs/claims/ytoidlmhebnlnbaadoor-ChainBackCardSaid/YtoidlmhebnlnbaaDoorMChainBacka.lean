/- Walks and laws that the claim's last text stands on, several texts in one file: BkP, ChainBackW. Under the hypotheses that each theorem states. -/
import Derived.Test.YtoidlmhebnlnbaaDoorMCha
import Derived.Test.YtoidlmhebnlnbaaDoorMChb
import Derived.Test.YtoidlmhebnlnbaaDoorMChc
import Derived.Test.YtoidlmhebnlnbaaDoorMChd
import Derived.Test.YtoidlmhebnlnbaaDoorMChe
import Derived.Test.YtoidlmhebnlnbaaDoorMChf
import Derived.Test.YtoidlmhebnlnbaaDoorMChg
import Derived.Test.YtoidlmhebnlnbaaDoorMChh
import Derived.Test.YtoidlmhebnlnbaaDoorMChi
import Derived.Test.YtoidlmhebnlnbaaDoorMChj
import Derived.Test.YtoidlmhebnlnbaaDoorMChk
import Derived.Test.YtoidlmhebnlnbaaDoorMChl
import Derived.Test.YtoidlmhebnlnbaaDoorMChm
import Derived.Test.YtoidlmhebnlnbaaDoorMChn
import Derived.Test.YtoidlmhebnlnbaaDoorMCho
import Derived.Test.YtoidlmhebnlnbaaDoorMChp
import Derived.Test.YtoidlmhebnlnbaaDoorMChq
import Derived.Test.YtoidlmhebnlnbaaDoorMChr
import Derived.Test.YtoidlmhebnlnbaaDoorMChs
import Derived.Test.YtoidlmhebnlnbaaDoorMCht
/- ChainBack, plain: an order of pages; two chains. -/
set_option linter.unusedVariables false
set_option linter.unusedSimpArgs false
namespace Go.Proofs.YtoidlmhebnlnbaaDoor
open Go.ChangeShapes Go.WideShapes Go.ChangeAt Go.RowKit

def bkP (t i : Nat) : Int := ((2 + (i * 11 + t) % 28 : Nat) : Int)
def bkAll (t N : Nat) : List Int := (List.range N).map (bkP t)
theorem bkAll_len (t N : Nat) : (bkAll t N).length = N := by simp [bkAll]
theorem bkAll_succ (t N : Nat) : bkAll t (N + 1) = bkAll t N ++ [bkP t N] := by simp [bkAll, List.range_succ]
theorem bkAll_mem {t N : Nat} {p : Int} (h : p ∈ bkAll t N) : 2 ≤ p ∧ p ≤ 29 := by
  obtain ⟨i, -, rfl⟩ := List.mem_map.1 h
  unfold bkP; omega
theorem bkAll_nodup (t N : Nat) (h : N ≤ 28) : (bkAll t N).Nodup := by
  refine List.pairwise_iff_getElem.2 (fun i j hi hj hij e => ?_)
  rw [bkAll_len] at hi hj
  simp only [bkAll, List.getElem_map, List.getElem_range, bkP] at e
  omega
theorem chVal_of {ps : List Int} (h : ∀ p ∈ ps, 2 ≤ p ∧ p ≤ 4294967295) (hn : ps.Nodup) : chVal ps ps.length := by
  intro i hi
  have e : ps.getD i 0 = ps[i] := by rw [List.getD_eq_getElem?_getD, List.getElem?_eq_getElem hi]; rfl
  rw [e]
  have := h ps[i] (List.getElem_mem hi)
  refine ⟨this.1, this.2, fun hm => ?_⟩
  obtain ⟨j, hj, e2⟩ := List.mem_take_iff_getElem.1 hm
  exact List.pairwise_iff_getElem.1 hn j i (by omega) hi (by omega) e2
theorem ChAt.other {n : Nat} {st st' : PlSt} {kind : Int} {ps qs : List Int} {b : List Byte} (h : ChAt n st kind ps b) (he : ∀ k : Nat, (k : Int) ∉ qs → plV st' k = plV st k) (hd : ∀ p ∈ ps, p ∉ qs) : ChAt n st' kind ps b :=
  ⟨h.ok, fun j hj => by
    obtain ⟨a, b', c⟩ := h.at_ j hj
    refine ⟨a, b', (he _ ?_).trans c⟩
    have := hd ps[j] (List.getElem_mem hj)
    rw [show ((ps[j].toNat : Nat) : Int) = ps[j] from by omega]
    exact this⟩
theorem chN_le {b : List Byte} (h : b.length ≤ 20000) : chN b ≤ 5 := by unfold chN; omega
/-- Both chains stand. -/
structure BkAt (t : Nat) (a b : List Byte) (st : PlSt) : Prop where
  inv : PlInv 240 st
  np : PlNP st
  ca : ChAt 240 st 2 ((bkAll t (chN a + chN b)).take (chN a)) a
  cb : ChAt 240 st 3 ((bkAll t (chN a + chN b)).drop (chN a)) b
theorem bk_oka (t : Nat) {a b : List Byte} (ha : a.length ≤ 20000) (hb : b.length ≤ 20000) : chOk 2 ((bkAll t (chN a + chN b)).take (chN a)) a := by
  refine ⟨rfl, by rw [List.length_take, bkAll_len]; omega, chVal_of (fun p hp => ?_) ((bkAll_nodup t _ (by have := chN_le ha; have := chN_le hb; omega)).sublist (List.take_sublist _ _))⟩
  have := bkAll_mem (List.mem_of_mem_take hp); omega
theorem bk_okb (t : Nat) {a b : List Byte} (ha : a.length ≤ 20000) (hb : b.length ≤ 20000) : chOk 3 ((bkAll t (chN a + chN b)).drop (chN a)) b := by
  refine ⟨rfl, by rw [List.length_drop, bkAll_len]; omega, chVal_of (fun p hp => ?_) ((bkAll_nodup t _ (by have := chN_le ha; have := chN_le hb; omega)).sublist (List.drop_sublist _ _))⟩
  have := bkAll_mem (List.mem_of_mem_drop hp); omega
theorem bk_write1 (t : Nat) {a b : List Byte} (ha : a.length ≤ 20000) (hb : b.length ≤ 20000) :
    (chWrite 240 2 ((bkAll t (chN a + chN b)).take (chN a)) a (ch0 240)).1 = 0 ∧ PlInv 240 (chWrite 240 2 ((bkAll t (chN a + chN b)).take (chN a)) a (ch0 240)).2 ∧ PlNP (chWrite 240 2 ((bkAll t (chN a + chN b)).take (chN a)) a (ch0 240)).2 ∧ ChAt 240 (chWrite 240 2 ((bkAll t (chN a + chN b)).take (chN a)) a (ch0 240)).2 2 ((bkAll t (chN a + chN b)).take (chN a)) a := by
  obtain ⟨h1, h2, h3, h4, -⟩ := chWrite_np (bk_oka t ha hb) (ch0_inv 240) (ch0_np 240) (fun p hp => by have := bkAll_mem (List.mem_of_mem_take hp); omega)
  exact ⟨h1, h2, h3, h4⟩
theorem bk_write2 (t : Nat) {a b : List Byte} (ha : a.length ≤ 20000) (hb : b.length ≤ 20000) {st : PlSt} (h1 : PlInv 240 st) (h2 : PlNP st) (h3 : ChAt 240 st 2 ((bkAll t (chN a + chN b)).take (chN a)) a) :
    (chWrite 240 3 ((bkAll t (chN a + chN b)).drop (chN a)) b st).1 = 0 ∧ BkAt t a b (chWrite 240 3 ((bkAll t (chN a + chN b)).drop (chN a)) b st).2 := by
  obtain ⟨q1, q2, q3, q4, q5⟩ := chWrite_np (bk_okb t ha hb) h1 h2 (fun p hp => by have := bkAll_mem (List.mem_of_mem_drop hp); omega)
  refine ⟨q1, q2, q3, h3.other q5 (fun p hp hq => ?_), q4⟩
  have hn := bkAll_nodup t (chN a + chN b) (by have := chN_le ha; have := chN_le hb; omega)
  rw [← List.take_append_drop (chN a) (bkAll t (chN a + chN b))] at hn
  exact (List.nodup_append.1 hn).2.2 p hp p hq rfl
theorem BkAt.eq {t : Nat} {a b : List Byte} {st st' : PlSt} (h : BkAt t a b st) (hi : PlInv 240 st') (e : PlEq st st') : BkAt t a b st' := ⟨hi, h.np.eq e, h.ca.eq e, h.cb.eq e⟩
theorem BkAt.heada {t : Nat} {a b : List Byte} {st : PlSt} (h : BkAt t a b st) : ((bkAll t (chN a + chN b)).take (chN a)).getD 0 0 = bkP t 0 ∧ ((bkAll t (chN a + chN b)).drop (chN a)).getD 0 0 = bkP t (chN a) := by
  have h1 := chN_pos a
  have h2 := chN_pos b
  constructor
  · rw [List.getD_eq_getElem?_getD, List.getElem?_take, if_pos (by omega)]
    simp [bkAll, List.getElem?_range (show 0 < chN a + chN b by omega)]
  · rw [List.getD_eq_getElem?_getD, List.getElem?_drop]
    simp [bkAll, List.getElem?_range (show chN a < chN a + chN b by omega)]
/-- The four readings. -/
theorem bk_read1 {t : Nat} {a b : List Byte} {st : PlSt} (h : BkAt t a b st) : (chRead 240 2 (bkP t 0) (chN a : Nat) st).1 = (a, (bkAll t (chN a + chN b)).take (chN a), 0) ∧ BkAt t a b (chRead 240 2 (bkP t 0) (chN a : Nat) st).2 := by
  obtain ⟨h1, h2, h3⟩ := chRead_ok h.ca h.inv h.np (chN a : Nat) (by rw [List.length_take, bkAll_len]; omega)
  rw [h.heada.1] at h1 h2 h3
  exact ⟨h1, h.eq h2 h3⟩
theorem bk_read2 {t : Nat} {a b : List Byte} {st : PlSt} (h : BkAt t a b st) (hb : b.length ≤ 20000) : (chRead 240 3 (bkP t (chN a)) 30 st).1 = (b, (bkAll t (chN a + chN b)).drop (chN a), 0) ∧ BkAt t a b (chRead 240 3 (bkP t (chN a)) 30 st).2 := by
  obtain ⟨h1, h2, h3⟩ := chRead_ok h.cb h.inv h.np 30 (by rw [List.length_drop, bkAll_len]; have := chN_le hb; omega)
  rw [h.heada.2] at h1 h2 h3
  exact ⟨h1, h.eq h2 h3⟩
theorem bk_read3 {t : Nat} {a b : List Byte} {st : PlSt} (h : BkAt t a b st) : (chRead 240 2 (bkP t 0) ((chN a : Nat) - 1) st).1 = ([], [], 4) ∧ BkAt t a b (chRead 240 2 (bkP t 0) ((chN a : Nat) - 1) st).2 := by
  obtain ⟨h1, h2, h3⟩ := chRead_few h.ca h.inv h.np ((chN a : Nat) - 1) (by rw [List.length_take, bkAll_len]; have := chN_pos a; omega)
  rw [h.heada.1] at h1 h2 h3
  exact ⟨h1, h.eq h2 h3⟩
theorem bk_read4 {t : Nat} {a b : List Byte} {st : PlSt} (h : BkAt t a b st) : (chRead 240 7 (bkP t 0) 30 st).1 = ([], [], 4) ∧ BkAt t a b (chRead 240 7 (bkP t 0) 30 st).2 := by
  obtain ⟨h1, h2, h3⟩ := chRead_other h.ca h.inv h.np 7 rfl (by decide) 30
  rw [h.heada.1] at h1 h2 h3
  exact ⟨h1, h.eq h2 h3⟩
theorem bk_evict {t : Nat} {a b : List Byte} {st : PlSt} (h : BkAt t a b st) (i : Int) : BkAt t a b (plEvict 240 st i).2 := by
  obtain ⟨h1, h2, -⟩ := plEvict_ok h.inv i
  exact h.eq h1 h2
end Go.Proofs.YtoidlmhebnlnbaaDoor
/- The walk through ChainBack. -/
set_option linter.unusedVariables false
set_option linter.unusedSimpArgs false
namespace Go.Proofs.YtoidlmhebnlnbaaDoor
open Go.ChangeShapes Go.WideShapes Go.ChangeAt Go.RowKit
attribute [local go_sem] nb_nonneg nb_lt8 nb_lt64
set_option maxRecDepth 100000

/-- all[:k], all[k:] of a row of integers. -/
theorem cutI (g len c k : Nat) (hk : k ≤ len) (hc : len ≤ c) (hkc : k < c) (W : World) :
    (Instr.slice 26 (.slice (some ⟨g, 0, none⟩) len c) none (some (.int .i64 (k : Int))) none).run Tryd.prog W = .ok (.slice (some ⟨g, 0, none⟩) k c) W ∧
    (Instr.slice 26 (.slice (some ⟨g, 0, none⟩) len c) (some (.int .i64 (k : Int))) none none).run Tryd.prog W = .ok (.slice (some ⟨g, k, none⟩) (len - k) (c - k)) W := by
  obtain ⟨i, hi, _, hsz, _⟩ := info_parts info_int
  have hel : Tryd.prog.elem 26 = 3 := by simp [Program.elem, Tryd.underlying26]
  have hu : Tryd.prog.underlying 26 = some (.slice (Tryd.prog.elem 26)) := by rw [hel]; exact Tryd.underlying26
  constructor
  · rw [run_slice_h W 26 (some ⟨g, 0, none⟩) len c hu .i64 (k : Int) (Int.natCast_nonneg _) (by omega), hel]
    simp [sizeOf, typeInfo, hi, hsz, sliced, Result.andThen, Addr.add]
  · rw [run_slice_l W 26 (some ⟨g, 0, none⟩) len c hu .i64 (k : Int) (Int.natCast_nonneg _) (by omega), hel]
    simp [sizeOf, typeInfo, hi, hsz, sliced, Result.andThen, Addr.add]
    by_cases h0 : k = 0
    · subst h0; simp
    · simp [h0]; omega
set_option maxHeartbeats 8000000 in
theorem chainBack_walk (A : Option Addr) (ca : Nat) (a : List Byte) (B : Option Addr) (cb : Nat) (b : List Byte) (turn evict : Int) (w : World) (hca : a.length ≤ ca) (hma : ca ≤ maxLen) (hra : Rd w A a) (hcb : b.length ≤ cb) (hmb : cb ≤ maxLen) (hrb : Rd w B b)
    (ht : -9223372036854775808 ≤ turn ∧ turn ≤ 9223372036854775807) (he : -9223372036854775808 ≤ evict ∧ evict ≤ 9223372036854775807) :
    Calls Tryd.prog 6 #[.slice A a.length ca, .slice B b.length cb, .int .i64 turn, .int .i64 evict] w fun e w' => e = .returned (.bool true) ∧ Below w.heap.size w w' := by
  have HA := Lib.hid (And.intro hca (And.intro hma hra))
  have HB := Lib.hid (And.intro hcb (And.intro hmb hrb))
  clear hca hma hra hcb hmb hrb ht he
  go_enter Tryd.func6, Tryd.ntmps6
  go_wp2_with fail
  refine (law9_lives w).mono ?_
  rintro e w1 ⟨rfl, hb⟩
  have HF1 := Lib.hid hb
  clear hb
  by_cases h1 : a.length ≤ 20000
  case neg =>
    have h1b : (20000 : Int) < (a.length : Int) := by omega
    clear h1
    go_wp2
    go_ret
    exact ⟨rfl, HF1.out⟩
  have h1b : ¬ (20000 : Int) < (a.length : Int) := by omega
  have H1 := Lib.hid h1
  clear h1
  by_cases h2 : b.length ≤ 20000
  case neg =>
    have h2b : (20000 : Int) < (b.length : Int) := by omega
    clear h2
    go_wp2
    go_ret
    exact ⟨rfl, HF1.out⟩
  have h2b : ¬ (20000 : Int) < (b.length : Int) := by omega
  have H2 := Lib.hid h2
  clear h2
  go_wp2_with fail
  clear h1b h2b
  refine (dsk_New_ok 240 (by omega) (by omega) w1).mono ?_
  rintro e w3 ⟨F, g, rfl, hd, hf, hn⟩
  have HD := Lib.hid hd
  have HF := Lib.hid (HF1.out.trans hf)
  have HN := Lib.hid (fun x hx => Nat.le_trans HF1.out.le (hn x hx))
  clear hd hf hn HF1
  go_wp2_with fail
  refine (po_New HD.out HN.out HF.out 8 (by omega) (by omega) (by omega)).mono ?_
  rintro e w4 ⟨gp, gf, rfl, hp⟩
  have HP := Lib.hid (show PoA w [] g 240 gp gf (ch0 240) w4 from hp)
  clear hp HD HF HN
  go_wp2_with fail
  have HNA := Lib.hid (show Calls Tryd.prog 13 #[.int .i64 (a.length : Int)] w4 fun e w'' => e = .returned (.int .i64 (chN a : Int)) ∧ w4 = w'' from by rw [← chN_need]; exact ch_Need _ w4 (by have := H1.out; omega))
  have HNB := Lib.hid (show Calls Tryd.prog 13 #[.int .i64 (b.length : Int)] w4 fun e w'' => e = .returned (.int .i64 (chN b : Int)) ∧ w4 = w'' from by rw [← chN_need]; exact ch_Need _ w4 (by have := H2.out; omega))
  obtain ⟨na, hna⟩ : ∃ na, na = chN a := ⟨_, rfl⟩
  obtain ⟨nq, hnq⟩ : ∃ nq, nq = chN b := ⟨_, rfl⟩
  rw [← hna] at HNA
  rw [← hnq] at HNB
  have HN5 := Lib.hid (show 1 ≤ na ∧ na ≤ 5 ∧ 1 ≤ nq ∧ nq ≤ 5 from by rw [hna, hnq]; exact ⟨chN_pos a, chN_le H1.out, chN_pos b, chN_le H2.out⟩)
  have HNE := Lib.hid (And.intro hna hnq)
  clear hna hnq
  refine HNA.out.mono ?_
  rintro e w5 ⟨rfl, rfl⟩
  go_wp2_with fail
  refine HNB.out.mono ?_
  rintro e w5 ⟨rfl, rfl⟩
  clear HNA HNB
  have hsum : IntKind.i64.wrap ((na : Int) + (nq : Int)) = ((na + nq : Nat) : Int) := by rw [IntKind.wrap_i64]; have := HN5.out; omega
  have hle : ¬ (28 : Int) < ((na + nq : Nat) : Int) := by have := HN5.out; omega
  obtain ⟨N, hN⟩ : ∃ N, N = na + nq := ⟨_, rfl⟩
  rw [← hN] at hsum hle
  have HNN := Lib.hid hN
  have HN10 := Lib.hid (show N ≤ 10 ∧ na < N ∧ 1 ≤ na from by have := HN5.out; omega)
  clear hN
  go_wp2_with fail
  have hp28 := pick_range turn 28 (by omega)
  obtain ⟨tt, htt⟩ : ∃ tt : Nat, (tt : Int) = pick turn 28 := ⟨(pick turn 28).toNat, by omega⟩
  have HPK := Lib.hid (fun W => kit_Pick turn 28 W (by omega) (by omega))
  rw [← htt] at HPK hp28
  have HT28 := Lib.hid (show tt < 28 from by omega)
  clear htt hp28
  go_loopw [15, 16] (fun s15 s16 wr => ∃ (k : Nat) (v : Value), k ≤ N ∧ s16 = .int .i64 k ∧ v = s15 ∧ Hid (OwnV 3 wr w4.heap.size v ((bkAll tt k).map (.int .i64))) ∧ Hid (FB w4 wr)) (fun _ s16 _ => N - (intOf s16).toNat)
  case atStart => exact ⟨0, _, by omega, rfl, rfl, Lib.hid (OwnV.nil _ _ _), Lib.hid (FB.refl _)⟩
  case round =>
    obtain ⟨k, v, hk, rfl, rfl, HO, HF⟩ := hrel
    by_cases hlt : k < N
    · have hkx : (k : Int) < (N : Int) := by omega
      have hw1 : IntKind.i64.wrap ((k : Int) * 11) = (k : Int) * 11 := by rw [IntKind.wrap_i64]; have := HN10.out; omega
      have hw2 : IntKind.i64.wrap ((k : Int) * 11 + (tt : Int)) = ((k * 11 + tt : Nat) : Int) := by rw [IntKind.wrap_i64]; have := HN10.out; have := HT28.out; omega
      have hw3 : (((k * 11 + tt : Nat) : Int)).tmod 28 = (((k * 11 + tt) % 28 : Nat) : Int) := by rw [Int.tmod_eq_emod_of_nonneg (by omega)]; omega
      have hw4 : IntKind.i64.wrap (2 + (((k * 11 + tt) % 28 : Nat) : Int)) = bkP tt k := by rw [IntKind.wrap_i64]; unfold bkP; omega
      have hw5 : IntKind.i64.wrap ((k : Int) + 1) = (k : Int) + 1 := by rw [IntKind.wrap_i64]; have := HN10.out; omega
      have HSC := Lib.hid (bkAll_succ tt k)
      have HLT := Lib.hid hlt
      clear hlt hk
      go_wp2_with fail
      refine (HPK.out _).mono ?_
      rintro e w5 ⟨rfl, rfl⟩
      go_wp2_with (at_builtin; refine wpList_append_any rfl _ _ 26 3 8 (.int .i64 0) Tryd.underlying26 info_int rfl rfl w4.heap.size v _ (HO.out.alloc _) rfl _ _ _ [.int .i64 (bkP tt k)] rfl rfl (RdV.lit _ [.int .i64 (bkP tt k)] _) (by simp [Value.oneCell']) (by simp [maxLen, bkAll_len]; have := HLT.out; have := HN10.out; omega) (by simp [bkAll_len]; have := HLT.out; have := HN10.out; omega) (by have := HF.out.le; simp; omega) ?_; intro v' w6 ho hg _; have HO6 := Lib.hid ho; have HG6 := Lib.hid hg; clear ho hg)
      have HF6 := Lib.hid ((HF.out.alloc _).grown HG6.out (fun q hq => (HO.out.base q hq).1))
      go_roundw
      case rel => exact ⟨k + 1, v', by have := HLT.out; omega, by go_num, rfl, by rw [HSC.out, List.map_append]; exact HO6, HF6⟩
      case measure => (show N - ((k : Int) + 1).toNat < N - ((k : Int)).toNat; have := HLT.out; omega)
    · have hkx : ¬ (k : Int) < (N : Int) := by omega
      obtain rfl : k = N := by omega
      obtain ⟨G, cG, rfl, o1, o2, o3, o4⟩ := OwnV.form HO.out
      rw [List.length_map, bkAll_len] at o1
      have hlen : ((bkAll tt k).map (Value.int .i64)).length = k := by rw [List.length_map, bkAll_len]
      rw [hlen]
      obtain ⟨ga, hga⟩ : ∃ ga, G = some ⟨ga, 0, none⟩ := by
        have := HO.out.head0 (by rw [List.length_map, bkAll_len]; have := HN10.out; omega)
        obtain ⟨q, e, -⟩ := this
        exact ⟨q, e⟩
      subst hga
      have h4 := o4 _ rfl
      have HPA := Lib.hid (HP.out.add HF.out ga h4.1 h4.2)
      have HGA := Lib.hid (show w.heap.size ≤ ga from Nat.le_trans HP.out.fb.le h4.1)
      have HRA := Lib.hid o3
      have HFA := Lib.hid HF.out
      have HCG := Lib.hid (And.intro o1 o2)
      have hcut := fun (W : World) => cutI ga k cG na (by have := HN10.out; omega) o1 (by have := HN10.out; omega) W
      have HCU := Lib.hid hcut
      clear hcut o1 o2 o3 o4 h4 HO HF HP hlt hk hlen HPK
      generalize wr = wa at *
      obtain ⟨psA, hpA⟩ : ∃ psA, psA = (bkAll tt (chN a + chN b)).take (chN a) := ⟨_, rfl⟩
      obtain ⟨psB, hpB⟩ : ∃ psB, psB = (bkAll tt (chN a + chN b)).drop (chN a) := ⟨_, rfl⟩
      have hk1 : k = chN a + chN b := by rw [HNN.out, HNE.out.1, HNE.out.2]
      have HLA := Lib.hid (show psA.length = na from by rw [hpA, List.length_take, bkAll_len, HNE.out.1]; omega)
      have HLB := Lib.hid (show psB.length = k - na from by rw [hpB, List.length_drop, bkAll_len, hk1, HNE.out.1])
      have HRPA := Lib.hid (show RdV wa (some ⟨ga, 0, none⟩) (psA.map (.int .i64)) from by
        have := RdV.take HRA.out na
        rw [← List.map_take, hk1, HNE.out.1, ← hpA] at this
        exact this)
      have HRPB := Lib.hid (show RdV wa (some ⟨ga, na, none⟩) (psB.map (.int .i64)) from by
        have := RdV.drop HRA.out na
        rw [← List.map_drop, hk1, HNE.out.1, ← hpB, Nat.zero_add] at this
        rw [HNE.out.1]; exact this)
      have HW1 := Lib.hid (bk_write1 tt H1.out H2.out)
      rw [← hpA] at HW1
      have HW2 := Lib.hid (fun st h1 h2 h3 => bk_write2 tt H1.out H2.out (st := st) h1 h2 h3)
      rw [← hpA, ← hpB] at HW2
      have HCW := Lib.hid (ch_Write HPA.out 2 psA a (some ⟨ga, 0, none⟩) A cG ca (by rw [HLA.out]; have := HN10.out; omega) (by have := H1.out; omega) HA.out.1 HA.out.2.1 HRPA.out (HPA.out.fb.rd HA.out.2.2) (fun ad ha => by cases ha; simp))
      rw [HLA.out] at HCW
      have HPE := Lib.hid (And.intro hpA hpB)
      have HKN := Lib.hid hk1
      clear hk1 hpA hpB
      generalize chWrite 240 2 psA a (ch0 240) = S at *
      obtain ⟨se, st1⟩ := S
      obtain rfl : se = 0 := HW1.out.1
      simp only at HCW
      have hc1 := (HCU.out wa).1
      go_wp2_with fail
      refine HCW.out.mono ?_
      rintro e w7 ⟨rfl, hp, hkp⟩
      have HP7 := Lib.hid hp
      have HKP7 := Lib.hid hkp
      clear hp hkp HCW hc1
      have HV2 := Lib.hid (HW2.out st1 HW1.out.2.1 HW1.out.2.2.1 HW1.out.2.2.2)
      have HCW := Lib.hid (ch_Write HP7.out 3 psB b (some ⟨ga, na, none⟩) B (cG - na) cb (by rw [HLB.out]; have := HN10.out; omega) (by have := H2.out; omega) HB.out.1 HB.out.2.1 (HKP7.out.rdV HRPB.out (fun ad ha => by cases ha; simp)) (HP7.out.fb.rd HB.out.2.2) (fun ad ha => by cases ha; simp))
      rw [HLB.out] at HCW
      generalize chWrite 240 3 psB b st1 = S at *
      obtain ⟨se, st2⟩ := S
      obtain rfl : se = 0 := HV2.out.1
      have HBK := Lib.hid (show BkAt tt a b st2 from HV2.out.2)
      simp only at HCW
      have hc2 := (HCU.out w7).2
      go_wp2_with fail
      refine HCW.out.mono ?_
      rintro e w8 ⟨rfl, hp, hkp⟩
      have HP8 := Lib.hid hp
      have HKP8 := Lib.hid (HKP7.out.trans hkp)
      clear hp hkp HCW hc2 HV2 HW1 HW2 HP7 HKP7
      go_wp2_with fail
      refine (kit_Pick evict 8 w8 (by omega) (by omega)).mono ?_
      rintro e w9 ⟨rfl, rfl⟩
      go_wp2_with fail
      have HCE := Lib.hid (po_Evict HP8.out (pick evict 8))
      have HBE := Lib.hid (bk_evict HBK.out (pick evict 8))
      generalize plEvict 240 st2 (pick evict 8) = S at *
      obtain ⟨se, st3⟩ := S
      refine HCE.out.mono ?_
      rintro e w9 ⟨rfl, hp, hkp⟩
      have HP9 := Lib.hid hp
      have HKP9 := Lib.hid (HKP8.out.trans hkp)
      clear hp hkp HCE HBK HP8 HKP8
      have HAL := Lib.hid (fun (W : World) (q : KP [ga] wa W) => show W.cell? ⟨ga, 0, none⟩ = some (.int .i64 (bkP tt 0)) ∧ W.cell? ⟨ga, na, none⟩ = some (.int .i64 (bkP tt na)) from by
        have hr := q.rdV HRA.out (fun ad ha => by cases ha; simp)
        obtain ⟨b0, o0, e0, -, hc⟩ := RdV.form hr (by rw [List.length_map, bkAll_len]; have := HN10.out; omega)
        cases e0
        have c0 := hc 0 (by rw [List.length_map, bkAll_len]; have := HN10.out; omega)
        have c1 := hc na (by rw [List.length_map, bkAll_len]; have := HN10.out; omega)
        simp only [List.getElem_map, bkAll, List.getElem_range, Nat.zero_add] at c0 c1
        exact ⟨c0, c1⟩)
      have hk0 : 0 < k := by have := HN10.out; omega
      have hkn : na < k := by have := HN10.out; omega
      have hki : (na : Int) < (k : Int) := by omega
      have hki0 : (0 : Int) < (k : Int) := by omega
      have HR1 := Lib.hid (bk_read1 HBE.out)
      rw [← HNE.out.1] at HR1
      have HC := Lib.hid (ch_Read HP9.out HBE.out.inv (by simp; exact HGA.out) 2 (bkP tt 0) (na : Nat) (by have := HN10.out; omega))
      generalize chRead 240 2 (bkP tt 0) (na : Nat) st3 = S at *
      obtain ⟨r1, st4⟩ := S
      have hr1 : r1 = (a, psA, 0) := by rw [HPE.out.1, ← HNE.out.1]; exact HR1.out.1
      subst hr1
      obtain ⟨c0, c1⟩ := HAL.out _ HKP9.out
      go_wp2_with fail
      refine HC.out.mono ?_
      rintro e w10 ⟨X1, x1, L1, l1, rfl, hra, hrl, -, -, hx, hl, hp, hkp⟩
      simp only at hra hrl hp ⊢
      rw [HLA.out]
      have HB4 := Lib.hid (show BkAt tt a b st4 from HR1.out.2)
      have HG1 := Lib.hid (show ∀ q ∈ optBlk X1 ++ optBlk L1 ++ [ga], w.heap.size ≤ q from fun q hq => by
        have h9 := HP9.out.fb.le
        rcases List.mem_append.1 hq with hq | hq
        · rcases List.mem_append.1 hq with hq | hq
          · cases X1 with
            | none => simp [optBlk] at hq
            | some ad => simp [optBlk] at hq; subst hq; exact Nat.le_trans h9 (hx _ rfl)
          · cases L1 with
            | none => simp [optBlk] at hq
            | some ad => simp [optBlk] at hq; subst hq; exact Nat.le_trans h9 (hl _ rfl)
        · simp at hq; subst hq; exact HGA.out)
      have HX1 := Lib.hid (And.intro hra hrl)
      have HP10 := Lib.hid hp
      have HK10 := Lib.hid (HKP9.out.trans hkp)
      clear hra hrl hx hl hp hkp HC HR1 HP9 c0 c1 HBE HKP9
      have HR2 := Lib.hid (bk_read2 HB4.out H2.out)
      rw [← HNE.out.1] at HR2
      have HC := Lib.hid (ch_Read HP10.out HB4.out.inv HG1.out 3 (bkP tt na) 30 (by omega))
      generalize chRead 240 3 (bkP tt na) 30 st4 = S at *
      obtain ⟨r2, st5⟩ := S
      have hr2 : r2 = (b, psB, 0) := by rw [HPE.out.2, ← HNE.out.1]; exact HR2.out.1
      subst hr2
      obtain ⟨c0, c1⟩ := HAL.out _ HK10.out
      go_wp2_with fail
      refine HC.out.mono ?_
      rintro e w11 ⟨X2, x2, L2, l2, rfl, hra, hrl, -, -, hx, hl, hp, hkp⟩
      simp only at hra hrl hp ⊢
      rw [HLB.out]
      have HB5 := Lib.hid (show BkAt tt a b st5 from HR2.out.2)
      have HG2 := Lib.hid (show ∀ q ∈ optBlk X2 ++ optBlk L2 ++ (optBlk X1 ++ optBlk L1 ++ [ga]), w.heap.size ≤ q from fun q hq => by
        have h9 := HP10.out.fb.le
        rcases List.mem_append.1 hq with hq | hq
        · rcases List.mem_append.1 hq with hq | hq
          · cases X2 with
            | none => simp [optBlk] at hq
            | some ad => simp [optBlk] at hq; subst hq; exact Nat.le_trans h9 (hx _ rfl)
          · cases L2 with
            | none => simp [optBlk] at hq
            | some ad => simp [optBlk] at hq; subst hq; exact Nat.le_trans h9 (hl _ rfl)
        · exact HG1.out q hq)
      have HX2 := Lib.hid (And.intro hra hrl)
      have HP11 := Lib.hid hp
      have HX1b := Lib.hid (show Rd w11 X1 a ∧ RdV w11 L1 (psA.map (.int .i64)) from ⟨hkp.rdV HX1.out.1 (fun ad ha => by subst ha; simp [optBlk]), hkp.rdV HX1.out.2 (fun ad ha => by subst ha; simp [optBlk])⟩)
      have HK11 := Lib.hid (HK10.out.trans (hkp.fewer (fun q hq => by simp at hq; subst hq; simp)))
      clear hra hrl hx hl hp hkp HC HR2 HP10 c0 c1 HB4 HK10 HX1
      have HR3 := Lib.hid (bk_read3 HB5.out)
      rw [← HNE.out.1] at HR3
      have HC := Lib.hid (ch_Read HP11.out HB5.out.inv HG2.out 2 (bkP tt 0) ((na : Nat) - 1) (by have := HN10.out; omega))
      generalize chRead 240 2 (bkP tt 0) ((na : Nat) - 1) st5 = S at *
      obtain ⟨r3, st6⟩ := S
      obtain rfl : r3 = ([], [], 4) := HR3.out.1
      obtain ⟨c0, c1⟩ := HAL.out _ HK11.out
      have hwm : IntKind.i64.wrap ((na : Int) - 1) = (na : Int) - 1 := by rw [IntKind.wrap_i64]; have := HN10.out; omega
      go_wp2_with fail
      refine HC.out.mono ?_
      rintro e w12 ⟨X3, x3, L3, l3, rfl, -, -, -, -, -, -, hp, hkp⟩
      have HB6 := Lib.hid (show BkAt tt a b st6 from HR3.out.2)
      have HP12 := Lib.hid (hp.fewer (K' := optBlk X2 ++ optBlk L2 ++ (optBlk X1 ++ optBlk L1 ++ [ga])) (fun q hq => List.mem_append_right _ hq))
      have HX12 := Lib.hid (show (Rd w12 X1 a ∧ RdV w12 L1 (psA.map (.int .i64))) ∧ Rd w12 X2 b ∧ RdV w12 L2 (psB.map (.int .i64)) from ⟨⟨hkp.rdV HX1b.out.1 (fun ad ha => by subst ha; simp [optBlk]), hkp.rdV HX1b.out.2 (fun ad ha => by subst ha; simp [optBlk])⟩, hkp.rdV HX2.out.1 (fun ad ha => by subst ha; simp [optBlk]), hkp.rdV HX2.out.2 (fun ad ha => by subst ha; simp [optBlk])⟩)
      have HK12 := Lib.hid (HK11.out.trans (hkp.fewer (fun q hq => by simp at hq; subst hq; simp)))
      clear hp hkp HC HR3 HP11 c0 c1 HB5 HK11 HX1b HX2 hwm
      have HR4 := Lib.hid (bk_read4 HB6.out)
      have HC := Lib.hid (ch_Read HP12.out HB6.out.inv HG2.out 7 (bkP tt 0) 30 (by omega))
      generalize chRead 240 7 (bkP tt 0) 30 st6 = S at *
      obtain ⟨r4, st7⟩ := S
      obtain rfl : r4 = ([], [], 4) := HR4.out.1
      obtain ⟨c0, c1⟩ := HAL.out _ HK12.out
      go_wp2_with fail
      refine HC.out.mono ?_
      rintro e w13 ⟨X4, x4, L4, l4, rfl, -, -, -, -, -, -, hp, hkp⟩
      have HF13 := Lib.hid hp.fb
      have HX13 := Lib.hid (show (Rd w13 X1 a ∧ RdV w13 L1 (psA.map (.int .i64))) ∧ Rd w13 X2 b ∧ RdV w13 L2 (psB.map (.int .i64)) from ⟨⟨hkp.rdV HX12.out.1.1 (fun ad ha => by subst ha; simp [optBlk]), hkp.rdV HX12.out.1.2 (fun ad ha => by subst ha; simp [optBlk])⟩, hkp.rdV HX12.out.2.1 (fun ad ha => by subst ha; simp [optBlk]), hkp.rdV HX12.out.2.2 (fun ad ha => by subst ha; simp [optBlk])⟩)
      have HK13 := Lib.hid (HK12.out.trans (hkp.fewer (fun q hq => by simp at hq; subst hq; simp)))
      clear hp hkp HC HR4 HP12 c0 c1 HB6 HK12 HX12
      have t1 := run_string x1 HX13.out.1.1
      have t2 := run_string ca (HF13.out.rd HA.out.2.2)
      have t3 := run_string x2 HX13.out.2.1
      have t4 := run_string cb (HF13.out.rd HB.out.2.2)
      have hc1 := (HCU.out w13).1
      generalize sb a = sa at *
      generalize sb b = sbb at *
      have HI1 := Lib.hid (kit_Ints psA psA L1 (some ⟨ga, 0, none⟩) na na l1 cG w13 HLA.out.symm HLA.out.symm (by rw [HLA.out]; have := HN10.out; omega) (by rw [HLA.out]; have := HN10.out; omega) HX13.out.1.2 (HK13.out.rdV HRPA.out (fun ad ha => by cases ha; simp)))
      have HI2 := Lib.hid (fun (W : World) (hf : FB w13 W) => kit_Ints psB psB L2 (some ⟨ga, na, none⟩) (k - na) (k - na) l2 (cG - na) W HLB.out.symm HLB.out.symm (by rw [HLB.out]; have := HN10.out; omega) (by rw [HLB.out]; have := HN10.out; omega) (hf.rdV HX13.out.2.2) (hf.rdV (HK13.out.rdV HRPB.out (fun ad ha => by cases ha; simp))))
      rw [show decide (psA = psA) = true from by simp] at HI1
      rw [show decide (psB = psB) = true from by simp] at HI2
      go_wp2_with fail
      refine HI1.out.mono ?_
      rintro e w14 ⟨rfl, hb⟩
      have HF14 := Lib.hid hb
      have hc2 := (HCU.out w14).2
      clear hb HI1 hc1 t1 t2 t3 t4
      go_wp2_with fail
      refine (HI2.out w14 HF14.out).mono ?_
      rintro e w15 ⟨rfl, hb⟩
      have HF15 := Lib.hid ((HF13.out.trans HF14.out).trans hb)
      clear hb HI2 hc2
      go_wp2
      go_ret
      exact ⟨rfl, HF15.out⟩
end Go.Proofs.YtoidlmhebnlnbaaDoor
