/- Walks and laws that the claim's last text stands on, several texts in one file: ChL, Row, PgE, PgL, Rr, CrcR, RgA, RgB. Under the hypotheses that each theorem states. -/
import Derived.OpenShut
import Derived.ChangeOld
import Derived.Test.YtoidlmhebnlnbaaDoorMCha
import Derived.Test.YtoidlmhebnlnbaaDoorMChb
import Derived.Test.YtoidlmhebnlnbaaDoorMChc
import Derived.Test.YtoidlmhebnlnbaaDoorMChd
import Derived.Test.YtoidlmhebnlnbaaDoorMChe
import Derived.Test.YtoidlmhebnlnbaaDoorMChf
import Derived.Test.YtoidlmhebnlnbaaDoorMChg
import Derived.Test.YtoidlmhebnlnbaaDoorMChh
import Derived.Test.YtoidlmhebnlnbaaDoorMChi
import Derived.Test.YtoidlmhebnlnbaaDoorMChj
import Derived.Test.YtoidlmhebnlnbaaDoorMChk
import Derived.Test.YtoidlmhebnlnbaaDoorMChl
import Derived.Test.YtoidlmhebnlnbaaDoorMChm
import Derived.Test.YtoidlmhebnlnbaaDoorMChn
import Derived.Test.YtoidlmhebnlnbaaDoorMCho
import Derived.Test.YtoidlmhebnlnbaaDoorMChp
import Derived.Test.YtoidlmhebnlnbaaDoorMChq
import Derived.Test.YtoidlmhebnlnbaaDoorMChr
/- chain: written and read (plain); the chapter's examples. -/
set_option linter.unusedVariables false
set_option linter.unusedSimpArgs false
namespace Go.Proofs.YtoidlmhebnlnbaaDoor
open Go.ChangeShapes Go.WideShapes Go.ChangeAt Go.RowKit
attribute [local go_sem] nb_nonneg nb_lt8 nb_lt64
set_option maxRecDepth 100000

/-- A chain stands in the pool. -/
structure ChAt (n : Nat) (st : PlSt) (kind : Int) (ps : List Int) (b : List Byte) : Prop where
  ok : chOk kind ps b
  at_ : ∀ j (hj : j < ps.length), 0 ≤ ps[j] ∧ ps[j].toNat < n / 8 ∧ plV st ps[j].toNat = chPage kind ps b j
section
variable {n : Nat} {st st' : PlSt} {kind : Int} {ps : List Int} {b : List Byte}
theorem ChAt.eq (h : ChAt n st kind ps b) (e : PlEq st st') : ChAt n st' kind ps b := ⟨h.ok, fun j hj => by obtain ⟨a, b, c⟩ := h.at_ j hj; exact ⟨a, b, ((e _).1).trans c⟩⟩
theorem ChAt.pos (h : ChAt n st kind ps b) : 0 < ps.length := by rw [h.ok.2.1]; exact chN_pos b
theorem ChAt.head (h : ChAt n st kind ps b) : 2 ≤ ps.getD 0 0 := (h.ok.2.2 0 h.pos).1
theorem chRd_code (hI : PlInv n st) (kind' most head : Int) (hk : chIs kind' = true) (hh : 2 ≤ head) : chRead n kind' head most st = if (chRd n kind' most (chFuel most) 0 [] head st).1.2 = 0 then (((chRd n kind' most (chFuel most) 0 [] head st).1.1.flatMap (·.2), (chRd n kind' most (chFuel most) 0 [] head st).1.1.map (·.1), 0), (chRd n kind' most (chFuel most) 0 [] head st).2)
    else (([], [], (chRd n kind' most (chFuel most) 0 [] head st).1.2), (chRd n kind' most (chFuel most) 0 [] head st).2) := by unfold chRead; rw [if_pos ⟨hk, hh⟩]
theorem chRead_ok (h : ChAt n st kind ps b) (hI : PlInv n st) (hP : PlNP st) (most : Int) (hm : (ps.length : Int) ≤ most) :
    (chRead n kind (ps.getD 0 0) most st).1 = (b, ps, 0) ∧ PlInv n (chRead n kind (ps.getD 0 0) most st).2 ∧ PlEq st (chRead n kind (ps.getD 0 0) most st).2 := by
  have hq := chRd_back h.ok most hm (chFuel most) 0 st h.pos (by unfold chFuel; omega) hI hP h.at_
  rw [List.take_zero] at hq
  obtain ⟨a, b', c⟩ := hq
  rw [chRd_code hI kind most _ h.ok.1 h.head, a]
  simp only [if_true]
  refine ⟨?_, b', c⟩
  rw [Nat.sub_zero, ← List.range_eq_range', List.flatMap_map, h.ok.2.1]
  have e1 : (List.range (chN b)).flatMap (fun j => (ps.getD j 0, chPart b j).2) = b := chParts_all b
  rw [e1]
  congr 2
  rw [← h.ok.2.1]
  apply List.ext_getElem?
  intro j
  by_cases hj : j < ps.length
  · simp [List.getElem?_range hj, List.getElem?_eq_getElem hj]
  · rw [List.getElem?_eq_none (by simpa using hj), List.getElem?_eq_none (by omega)]
theorem chRead_few (h : ChAt n st kind ps b) (hI : PlInv n st) (hP : PlNP st) (most : Int) (hm : most < (ps.length : Int)) :
    (chRead n kind (ps.getD 0 0) most st).1 = ([], [], 4) ∧ PlInv n (chRead n kind (ps.getD 0 0) most st).2 ∧ PlEq st (chRead n kind (ps.getD 0 0) most st).2 := by
  have hq := chRd_few h.ok most hm (chFuel most) 0 st h.pos (by omega) (by unfold chFuel; omega) hI hP h.at_
  rw [List.take_zero] at hq
  obtain ⟨a, b', c⟩ := hq
  rw [chRd_code hI kind most _ h.ok.1 h.head, a]
  exact ⟨rfl, b', c⟩
theorem chRead_other (h : ChAt n st kind ps b) (hI : PlInv n st) (hP : PlNP st) (k : Int) (hk : chIs k = true) (hne : k ≠ kind) (most : Int) :
    (chRead n k (ps.getD 0 0) most st).1 = ([], [], 4) ∧ PlInv n (chRead n k (ps.getD 0 0) most st).2 ∧ PlEq st (chRead n k (ps.getD 0 0) most st).2 := by
  have hp := h.pos
  have hgi : ps.getD 0 0 = ps[0] := by rw [List.getD_eq_getElem?_getD, List.getElem?_eq_getElem hp]; rfl
  obtain ⟨v1, v2, v3⟩ := h.at_ 0 hp
  obtain ⟨q, hq⟩ : ∃ q : Nat, ps[0] = (q : Int) := ⟨ps[0].toNat, by omega⟩
  have hh := h.head
  rw [hgi, hq] at hh ⊢
  rw [hq] at v2 v3
  simp only [Int.toNat_natCast] at v2 v3
  obtain ⟨g1, g2, g3, g4⟩ := plGet_np hI hP v2
  have hb := chRd_bad (n := n) (kind := k) (most := most) (f := most.toNat) (i := 0) (seen := []) (head := (q : Int)) (st := st) g1 (by rw [g2, v3]; exact chPage_other h.ok hne most _)
  rw [chRd_code hI k most _ hk hh]
  unfold chFuel
  rw [hb]
  exact ⟨rfl, g3, g4⟩
/-- A chain is written. -/
theorem chWrite_np (hok : chOk kind ps b) (hI : PlInv n st) (hP : PlNP st) (hr : ∀ p ∈ ps, p.toNat < n / 8) :
    (chWrite n kind ps b st).1 = 0 ∧ PlInv n (chWrite n kind ps b st).2 ∧ PlNP (chWrite n kind ps b st).2 ∧ ChAt n (chWrite n kind ps b st).2 kind ps b ∧ ∀ k : Nat, (k : Int) ∉ ps → plV (chWrite n kind ps b st).2 k = plV st k := by
  have hr0 : ∀ p ∈ ps, 0 ≤ p ∧ p.toNat < n / 8 := fun p hp => by
    obtain ⟨j, hj, rfl⟩ := List.getElem_of_mem hp
    have := hok.2.2 j hj
    rw [List.getD_eq_getElem?_getD, List.getElem?_eq_getElem hj] at this
    simp only [Option.getD_some] at this
    exact ⟨by omega, hr _ hp⟩
  have hnd : ps.Nodup := by
    refine List.pairwise_iff_getElem.2 (fun i j hi hj hij e => ?_)
    have h3 := (hok.2.2 j hj).2.2
    rw [List.getD_eq_getElem?_getD, List.getElem?_eq_getElem hj] at h3
    simp only [Option.getD_some] at h3
    exact h3 (by rw [← e]; exact List.mem_take_iff_getElem.2 ⟨i, by omega, rfl⟩)
  have e : chPages kind ps b = ((List.range (chN b)).map (chPage kind ps b), 0) := by unfold chPages; rw [if_pos hok]
  unfold chWrite
  rw [e]
  simp only [if_true]
  obtain ⟨a, b', c, d, f⟩ := chWr_np ps ((List.range (chN b)).map (chPage kind ps b)) st hI hP hr0 hnd (fun x hx => by obtain ⟨i, -, rfl⟩ := List.mem_map.1 hx; exact chPage_len _ _ _ _) (by simp [hok.2.1])
  refine ⟨a, b', c, ⟨hok, fun j hj => ?_⟩, f⟩
  have h1 := hr0 ps[j] (List.getElem_mem hj)
  refine ⟨h1.1, h1.2, ?_⟩
  have := d j hj (by rw [List.length_map, List.length_range, ← hok.2.1]; exact hj)
  rw [this]
  simp
/-- An empty pool over an empty disk. -/
def ch0 (n : Nat) : PlSt := ⟨List.replicate 8 frm0, 0, ⟨List.replicate (512 * n) 0#8, [], none⟩⟩
theorem ch0_inv (n : Nat) : PlInv n (ch0 n) := PlInv.fresh (by omega) rfl (fun k hk => by rw [pgAt_new hk]; simp)
theorem ch0_np (n : Nat) : PlNP (ch0 n) := fun k => plN_miss (find_fresh 8 k)
end
def lv9 : List Byte := List.replicate 5000 0#8
theorem lv9_len : lv9.length = 5000 := by unfold lv9; rw [List.length_replicate]
theorem lv9_ok : chOk 7 [7, 2] lv9 := by
  refine ⟨rfl, ?_, ?_⟩
  · unfold chN; rw [lv9_len]; rfl
  · intro i hi
    have : i = 0 ∨ i = 1 := by simp at hi; omega
    rcases this with rfl | rfl
    · exact ⟨by decide, by decide, by decide⟩
    · exact ⟨by decide, by decide, by decide⟩
def lv8 : List Byte := List.replicate 4075 0#8
theorem lv8_len : lv8.length = 4075 := by unfold lv8; rw [List.length_replicate]
theorem lv8_ok : chOk 2 [5, 3] lv8 := by
  refine ⟨rfl, ?_, ?_⟩
  · unfold chN; rw [lv8_len]; rfl
  · intro i hi
    have : i = 0 ∨ i = 1 := by simp at hi; omega
    rcases this with rfl | rfl
    · exact ⟨by decide, by decide, by decide⟩
    · exact ⟨by decide, by decide, by decide⟩
theorem lv8_N : chN lv8 = 2 := by unfold chN; rw [lv8_len]; rfl
theorem lv8_pages : chPages 2 [5, 3] lv8 = ((List.range 2).map (chPage 2 [5, 3] lv8), 0) := by unfold chPages; rw [if_pos lv8_ok, lv8_N]
theorem lv8_head : (((chPage 2 [5, 3] lv8 0).drop 16).take 6) = [3#8, 0#8, 0#8, 0#8, 0xea#8, 0x0f#8] := by
  unfold chPage
  rw [pgBytes_drop]
  have hl : (chPart lv8 0).length = 4074 := chPart_full (by rw [lv8_N]; omega)
  have e : pgPad (chBody [5, 3] lv8 0) = oword 4 (BitVec.ofInt 64 3) ++ oword 2 (BitVec.ofNat 64 4074) ++ (chPart lv8 0 ++ List.replicate (4080 - (chBody [5, 3] lv8 0).length) 0#8) := by
    unfold pgPad
    rw [show chBody [5, 3] lv8 0 = oword 4 (BitVec.ofInt 64 (chNext [5, 3] 0)) ++ oword 2 (BitVec.ofNat 64 (chPart lv8 0).length) ++ chPart lv8 0 from rfl, hl]
    simp [chNext]
  rw [e, List.take_left' (by simp [oword_len])]
  rfl
/-- The row at the front of what Pages returns. -/
theorem rows_front {w : World} {A : Option Addr} {vs : List Value} {rows : List (List Byte)} {base : Nat} (hv : RdV w A vs) (hr : RowsIn base w vs rows) (hl : 0 < rows.length) :
    ∃ g o A0 c0, A = some ⟨g, o, none⟩ ∧ w.cell? ⟨g, o, none⟩ = some (.slice A0 (rows[0]'hl).length c0) ∧ Rd w A0 (rows[0]'hl) ∧ (rows[0]'hl).length ≤ c0 ∧ c0 ≤ maxLen := by
  obtain ⟨A0, c0, h1, h2, h3, h4, -⟩ := hr.each 0 hl
  obtain ⟨g, o, e, -, hc⟩ := RdV.form hv (by rw [hr.len]; exact hl)
  have := hc 0 (by rw [hr.len]; exact hl)
  rw [List.getElem?_eq_getElem (by rw [hr.len]; exact hl)] at h1
  rw [Option.some.inj h1] at this
  exact ⟨g, o, A0, c0, e, this, h2, h3, h4⟩
set_option maxHeartbeats 4000000 in
theorem law9_lives (w : World) : Calls Tryd.prog 11 #[] w fun e w' => e = .returned (.bool true) ∧ FB w w' := by
  obtain ⟨C1, hmk1, hC1⟩ := mk_bytes 4075 4075 rfl (by omega)
  obtain ⟨C2, hmk2, hC2⟩ := mk_bytes 5000 5000 rfl (by omega)
  have HC1 := Lib.hid hC1
  have HC2 := Lib.hid hC2
  clear hC1 hC2
  go_enter Tryd.func11, Tryd.ntmps11
  have HRA := Lib.hid (show ∀ (u v : Int) (W : World) (C : Array Value) (n : Nat), C = (vbs (List.replicate n 0#8)).toArray → RdV ((W.alloc (.cells #[.int .i64 u, .int .i64 v] 3)).alloc (.cells C 5)) (some ⟨W.heap.size, 0, none⟩) ([u, v].map (.int .i64)) ∧ Rd ((W.alloc (.cells #[.int .i64 u, .int .i64 v] 3)).alloc (.cells C 5)) (some ⟨W.heap.size + 1, 0, none⟩) (List.replicate n 0#8) ∧
      FB W ((W.alloc (.cells #[.int .i64 u, .int .i64 v] 3)).alloc (.cells C 5)) from fun u v W C n hC => ⟨(RdV.lit W [.int .i64 u, .int .i64 v] 3 rfl).alloc _, rd_mk hC _ _ (by simp), ((FB.refl W).alloc _).alloc _⟩)
  go_wp2_with fail
  obtain ⟨r1, r2, r3⟩ := HRA.out 5 3 w C1 4075 HC1.out
  have HC := Lib.hid (ch_Pages 2 [5, 3] lv8 (some ⟨w.heap.size, 0, none⟩) (some ⟨w.heap.size + 1, 0, none⟩) 2 4075 _ (by simp) (by rw [lv8_len]; omega) (by rw [lv8_len]; omega) (by simp [maxLen]) r1 r2)
  rw [lv8_len, lv8_pages] at HC
  have HF1 := Lib.hid r3
  clear r1 r2 r3 hmk1 HC1
  generalize (w.alloc (.cells #[.int .i64 5, .int .i64 3] 3)).alloc (.cells C1 5) = w1 at *
  refine HC.out.mono ?_
  rintro e w2 ⟨A2, c2, vs, rfl, hv, hrw, -, -, -, hb⟩
  simp only [List.length_map, List.length_range] at hv hrw ⊢
  obtain ⟨g2, o2, A3, c3, rfl, hcell, hrd, h3, h4⟩ := rows_front hv hrw (by simp)
  simp only [List.getElem_map, List.getElem_range] at hcell hrd h3 h4
  rw [chPage_len] at hcell h3
  have HPL := Lib.hid (chPage_len 2 [5, 3] lv8 0)
  have HPH := Lib.hid lv8_head
  generalize chPage 2 [5, 3] lv8 0 = pg at *
  obtain ⟨A4, hcut, hrc⟩ := cut_mid A3 c3 pg 16 6 (by rw [HPL.out]; omega) (by rw [HPL.out]; exact h3)
  rw [HPL.out, show ((16 : Nat) : Int) + ((6 : Nat) : Int) = 22 from rfl, show ((16 : Nat) : Int) = 16 from rfl] at hcut
  have hrs := hrc _ hrd
  rw [HPH.out] at hrs
  have hst := run_string (c3 - 16) hrs
  have hseq : sb [3#8, 0#8, 0#8, 0#8, 0xea#8, 0x0f#8] = ⟨#[3, 0, 0, 0, 234, 15]⟩ := rfl
  rw [hseq, show ([3#8, 0#8, 0#8, 0#8, 0xea#8, 0x0f#8] : List Byte).length = 6 from rfl] at hst
  have HF2 := Lib.hid (HF1.out.trans hb)
  clear HC hv hrw hb hrc hrs hseq HPL HPH HF1 h3 h4 hrd
  have HND := Lib.hid (show ∀ (n v : Int) (W : World), chNeed n = v → -9223372036854775808 ≤ n ∧ n ≤ 9223372036854775807 → Calls Tryd.prog 13 #[.int .i64 n] W fun e w'' => e = .returned (.int .i64 v) ∧ W = w'' from fun n v W h hn => h ▸ ch_Need n W hn)
  go_wp2_with fail
  refine (HND.out 0 1 w2 rfl (by omega)).mono ?_
  rintro e w3 ⟨rfl, rfl⟩
  go_wp2_with fail
  refine (HND.out 4074 1 w2 rfl (by omega)).mono ?_
  rintro e w3 ⟨rfl, rfl⟩
  go_wp2_with fail
  refine (HND.out 4075 2 w2 rfl (by omega)).mono ?_
  rintro e w3 ⟨rfl, rfl⟩
  go_wp2_with fail
  clear hcell hcut hst HND
  refine (dsk_New_ok 64 (by omega) (by omega) w2).mono ?_
  rintro e w3 ⟨F, g, rfl, hd, hf, hn⟩
  have HD := Lib.hid hd
  have HF := Lib.hid (HF2.out.trans hf)
  have HN := Lib.hid (fun x hx => Nat.le_trans HF2.out.le (hn x hx))
  clear hd hf hn HF2
  go_wp2_with fail
  refine (po_New HD.out HN.out HF.out 8 (by omega) (by omega) (by omega)).mono ?_
  rintro e w4 ⟨gp, gf, rfl, hp⟩
  have HP := Lib.hid (show PoA w [] g 64 gp gf (ch0 64) w4 from hp)
  clear hp HD HF HN
  go_wp2_with fail
  obtain ⟨r1, r2, r3⟩ := HRA.out 7 2 w4 C2 5000 HC2.out
  have HP5 := Lib.hid (HP.out.add r3 w4.heap.size (Nat.le_refl _) (by simp only [World.size_alloc]; omega))
  have HC := Lib.hid (ch_Write HP5.out 7 [7, 2] lv9 (some ⟨w4.heap.size, 0, none⟩) (some ⟨w4.heap.size + 1, 0, none⟩) 2 5000 (by simp) (by rw [lv9_len]; omega) (by rw [lv9_len]; omega) (by simp [maxLen]) r1 r2 (fun ad ha => by cases ha; simp))
  have HW := Lib.hid (chWrite_np lv9_ok (ch0_inv 64) (ch0_np 64) (by intro p hp; simp at hp; rcases hp with rfl | rfl <;> decide))
  generalize chWrite 64 7 [7, 2] lv9 (ch0 64) = S at *
  obtain ⟨se, st1⟩ := S
  obtain rfl : se = 0 := HW.out.1
  rw [lv9_len] at HC
  simp only at HC
  clear r1 r2 r3 hmk2 HC2 HP
  generalize (w4.alloc (.cells #[.int .i64 7, .int .i64 2] 3)).alloc (.cells C2 5) = w5 at *
  refine HC.out.mono ?_
  rintro e w6 ⟨rfl, hp, -⟩
  have HP6 := Lib.hid (hp.fewer (K' := []) (by simp))
  clear hp HC HP5
  go_wp2_with fail
  have HR := Lib.hid (chRead_ok HW.out.2.2.2.1 HW.out.2.1 HW.out.2.2.1 2 (by decide))
  have HC := Lib.hid (ch_Read HP6.out HW.out.2.1 (by simp) 7 7 2 (by omega))
  have HR2 := Lib.hid (show (chRead 64 7 7 2 st1).1 = (lv9, [7, 2], 0) from HR.out.1)
  clear HR
  generalize chRead 64 7 7 2 st1 = S at *
  obtain ⟨r, st2⟩ := S
  obtain rfl : r = (lv9, [7, 2], 0) := HR2.out
  refine HC.out.mono ?_
  rintro e w7 ⟨A7, c7, B7, d7, rfl, hra, hrb, -, -, -, -, hp, -⟩
  simp only [lv9_len] at *
  have HP7 := Lib.hid hp.fb
  have HRB := Lib.hid hrb
  clear hp hra hrb HC HR2 HW HP6
  go_wp2_with fail
  have hfa : FB w7 (w7.alloc (.cells #[.int .i64 7, .int .i64 2] 3)) := (FB.refl w7).alloc _
  refine (kit_Ints [7, 2] [7, 2] B7 _ 2 2 d7 2 _ rfl rfl (by simp) (by simp) (hfa.rdV HRB.out) (RdV.lit w7 [.int .i64 7, .int .i64 2] 3 rfl)).mono ?_
  rintro e w8 ⟨rfl, hb⟩
  have HF := Lib.hid ((HP7.out.trans hfa).trans hb)
  clear hb hfa
  go_wp2
  go_ret
  exact ⟨rfl, HF.out⟩
end Go.Proofs.YtoidlmhebnlnbaaDoor
/- Arguments as they come in, opened: numbers, bytes, lists of numbers. -/
set_option linter.unusedVariables false
set_option linter.unusedSimpArgs false
namespace Go.Proofs.YtoidlmhebnlnbaaDoor
open Go.ChangeShapes Go.WideShapes Go.ChangeAt Go.RowKit

theorem own_knob : ownKnob Tryd.prog.godebug = none := by kernel_rfl
theorem laid_out : laidOutB Tryd.prog = true := by kernel_rfl

section
variable {H : Type} {enc : TypeId × Value → H} {W : World} {v : Value} {d : DataW H} {p : List MemPlace}

theorem nb_of_int {n : Nat} {x : Int} (h0 : 0 ≤ x) (h1 : x < 2 ^ n) : ∃ b : BitVec n, x = nb b := ⟨BitVec.ofInt n x, (nb_ofInt x h0 h1).symm⟩
theorem wf_u8 {x : Int} (h : (Lit.int .u8 x).wf = true) : ∃ b : BitVec 8, x = nb b := by
  have : 0 ≤ x ∧ x ≤ 255 := by simpa [Lit.wf, IntKind.min, IntKind.max, IntKind.signed, IntKind.bits] using h
  exact nb_of_int this.1 (by omega)
theorem wf_u32 {x : Int} (h : (Lit.int .u32 x).wf = true) : ∃ b : BitVec 32, x = nb b := by
  have : 0 ≤ x ∧ x ≤ 4294967295 := by simpa [Lit.wf, IntKind.min, IntKind.max, IntKind.signed, IntKind.bits] using h
  exact nb_of_int this.1 (by omega)
theorem wf_u64 {x : Int} (h : (Lit.int .u64 x).wf = true) : ∃ b : BitVec 64, x = nb b := by
  have : 0 ≤ x ∧ x ≤ 18446744073709551615 := by simpa [Lit.wf, IntKind.min, IntKind.max, IntKind.signed, IntKind.bits] using h
  exact nb_of_int this.1 (by omega)
theorem wf_i64 {x : Int} (h : (Lit.int .i64 x).wf = true) : -9223372036854775808 ≤ x ∧ x ≤ 9223372036854775807 := by
  simpa [Lit.wf, IntKind.min, IntKind.max, IntKind.signed, IntKind.bits] using h

set_option maxRecDepth 100000 in
/-- A []byte that came in. -/
theorem open_bytes {r : Reach} {b0 : Nat} {base : Nat} {spare : Nat → Bool} {held : Bool} (hv : Value.okWide Tryd.prog W r b0 27 v) (h : DataW.Trod enc Tryd.prog W base spare held 27 v d p) :
    ∃ A c xs, v = .slice A (xs : List Byte).length c ∧ xs.length ≤ c ∧ c ≤ maxLen ∧ Rd W A xs := by
  obtain ⟨a, len, cap, rfl⟩ := okWide_slice Tryd.underlying27 hv
  obtain ⟨fuel, hf⟩ := h
  rcases open_ints Tryd.underlying27 Tryd.underlying5 (by kernel_rfl) hf with ⟨hcs, _⟩ | ⟨x, l, c, zs, hcs, _, hl, hm, hz, _, hcell, hwz⟩
  · simp [Value.cells] at hcs
    obtain ⟨rfl, rfl, rfl⟩ := hcs
    exact ⟨none, 0, [], rfl, by simp, by simp [maxLen], Rd.nil _ _⟩
  · simp [Value.cells] at hcs
    obtain ⟨rfl, rfl, rfl⟩ := hcs
    have hlz : len ≤ zs.length := by rw [hz]; split <;> omega
    refine ⟨some x, cap, (zs.take len).map (BitVec.ofInt 8), ?_, ?_, hm, ?_⟩
    · simp [Nat.min_eq_left hlz]
    · simp [Nat.min_eq_left hlz, hl]
    · intro i hi
      simp only [vbs_length, List.length_map, List.length_take, Nat.min_eq_left hlz] at hi
      obtain ⟨b, off, rfl, hc⟩ := ints_at hcell (by omega)
      refine ⟨b, off, rfl, ?_⟩
      rw [hc i (by omega)]
      have hmem : zs.getD i 0 ∈ zs := by simp [List.getD, show i < zs.length by omega]
      have hw := hwz _ hmem
      have hb : 0 ≤ zs.getD i 0 ∧ zs.getD i 0 ≤ 255 := by simpa [Lit.wf, IntKind.min, IntKind.max, IntKind.signed, IntKind.bits] using hw
      rw [vbs_get _ _ (by simp; omega)]
      simp only [List.getElem_map, List.getElem_take, vb]
      rw [nb_ofInt _ (by have := hb.1; simp [List.getD, show i < zs.length by omega] at this ⊢; exact this) (by have := hb.2; simp [List.getD, show i < zs.length by omega] at this ⊢; omega)]
      simp [List.getD, show i < zs.length by omega]
set_option maxRecDepth 100000 in
/-- A []int that came in. -/
theorem open_intl {r : Reach} {b0 : Nat} {base : Nat} {spare : Nat → Bool} {held : Bool} (hv : Value.okWide Tryd.prog W r b0 26 v) (h : DataW.Trod enc Tryd.prog W base spare held 26 v d p) :
    ∃ A c zs, v = .slice A (zs : List Int).length c ∧ zs.length ≤ c ∧ c ≤ maxLen ∧ RdV W A (zs.map (Value.int .i64)) ∧ ∀ z ∈ zs, -9223372036854775808 ≤ z ∧ z ≤ 9223372036854775807 := by
  obtain ⟨a, len, cap, rfl⟩ := okWide_slice Tryd.underlying26 hv
  obtain ⟨fuel, hf⟩ := h
  rcases open_ints Tryd.underlying26 Tryd.underlying3 (by kernel_rfl) hf with ⟨hcs, _⟩ | ⟨x, l, c, zs, hcs, _, hl, hm, hz, _, hcell, hwz⟩
  · simp [Value.cells] at hcs
    obtain ⟨rfl, rfl, rfl⟩ := hcs
    exact ⟨none, 0, [], rfl, by simp, by simp [maxLen], RdV.nil _ _, by simp⟩
  · simp [Value.cells] at hcs
    obtain ⟨rfl, rfl, rfl⟩ := hcs
    have hlz : len ≤ zs.length := by rw [hz]; split <;> omega
    refine ⟨some x, cap, zs.take len, ?_, ?_, hm, ?_, ?_⟩
    · simp [Nat.min_eq_left hlz]
    · simp [Nat.min_eq_left hlz, hl]
    · intro i hi
      simp only [List.length_map, List.length_take, Nat.min_eq_left hlz] at hi
      obtain ⟨b, off, rfl, hc⟩ := ints_at hcell (by omega)
      refine ⟨b, off, rfl, ?_⟩
      rw [hc i (by omega)]
      simp [List.getD, show i < zs.length by omega]
    · intro z hz'
      exact wf_i64 (hwz z (List.mem_of_mem_take hz'))
end

end Go.Proofs.YtoidlmhebnlnbaaDoor
/- page: the walks through Kind, Same. -/
set_option linter.unusedVariables false
set_option linter.unusedSimpArgs false
namespace Go.Proofs.YtoidlmhebnlnbaaDoor
open Go.ChangeShapes Go.WideShapes Go.ChangeAt Go.RowKit
attribute [local go_sem] nb_nonneg nb_lt8 nb_lt64
set_option maxRecDepth 100000
theorem pbox22 (w : World) (a b c d e f : Value) : let W := (w.alloc (.cells #[a, b, c] 45)).alloc (.cells #[d, e, f] 45)
    FB w W ∧ W.heap[w.heap.size]? = some (.cells #[a, b, c] 45 (0, 0)) ∧ W.heap[w.heap.size + 1]? = some (.cells #[d, e, f] 45 (0, 0)) ∧ W.heap.size = w.heap.size + 2 := by
  refine ⟨((FB.refl w).alloc _).alloc _, ?_, ?_, by simp⟩
  · rw [((FB.refl (w.alloc (.cells #[a, b, c] 45))).alloc _).block _ (by simp)]; exact heap_alloc_new _ _
  · have := heap_alloc_new (w.alloc (.cells #[a, b, c] 45)) (.cells #[d, e, f] 45)
    simpa using this
end Go.Proofs.YtoidlmhebnlnbaaDoor
/- page: the chapter's examples (lives). -/
set_option linter.unusedVariables false
set_option linter.unusedSimpArgs false
namespace Go.Proofs.YtoidlmhebnlnbaaDoor
open Go.ChangeShapes Go.WideShapes Go.ChangeAt Go.RowKit
set_option maxRecDepth 100000

def ab2 : List Byte := [97#8, 98#8]
theorem ab_ok : pgB 6 258#32 ab2 = (pgBytes 6#8 258#32 ab2, 0) := by unfold pgB; rw [if_pos (by decide)]; rfl
theorem ab_len : (pgBytes 6#8 258#32 ab2).length = 4096 := pgBytes_len _ _ (by decide)
theorem ab_read : pgR (pgBytes 6#8 258#32 ab2) = ((6, 258#32, pgPad ab2), 0) := pgR_bytes (K := 6) (n := 258#32) (x := ab2) (by decide)
theorem ab_head : (pgBytes 6#8 258#32 ab2).take 12 = [84#8, 77#8, 1#8, 6#8, 2#8, 1#8, 0#8, 0#8, 0#8, 0#8, 0#8, 0#8] := by rw [pgBytes_take]; decide
theorem ab_pad : (pgPad ab2).take 3 = [97#8, 98#8, 0#8] := by
  unfold pgPad
  rw [show 4080 - ab2.length = 4077 + 1 from by decide, List.replicate_succ]; rfl
theorem ab_padlen : (pgPad ab2).length = 4080 := pgPad_len (by decide)
theorem ab_same : pgSame 6 258#32 (pgPad ab2) 6 258#32 ab2 = true := by unfold pgSame; rw [trimz_pad]; simp
end Go.Proofs.YtoidlmhebnlnbaaDoor
/- the reference of layer 1: a reader of four bytes, and the word that it reads. -/
set_option linter.unusedVariables false
set_option linter.unusedSimpArgs false
namespace Go.Proofs.YtoidlmhebnlnbaaDoor
open Go.ChangeShapes Go.WideShapes Go.ChangeAt Go.RowKit
attribute [local go_sem] nb_nonneg nb_lt8 nb_lt64
set_option maxRecDepth 100000

set_option maxHeartbeats 1000000 in
theorem rr_New (xs : List Byte) (A : Option Addr) (c : Nat) (w : World) (hx : xs.length = 4) (hr : Rd w A xs) :
    Calls Tryd.prog 38 #[.slice A 4 c] w fun e w' => ∃ g b c', e = .returned (.pointer (some ⟨g, 0, none⟩)) ∧ w'.heap[g]? = some (.cells #[.slice (some ⟨b, 0, none⟩) 4 c', .int .i64 0] 104 (0, 0)) ∧ Rd w' (some ⟨b, 0, none⟩) xs ∧ 4 ≤ c' ∧ c' ≤ maxLen ∧ b < g ∧ w.heap.size ≤ g ∧ FB w w' := by
  have HR := Lib.hid hr
  have HX := Lib.hid hx
  clear hr hx
  go_enter Tryd.func38, Tryd.ntmps38
  go_wp2_with (at_builtin; (refine wpList_append_bytes rfl _ _ rfl w.heap.size _ [] (OwnV.lit _ w [] (by simp)) rfl A c xs (by rw [HX.out]; rfl) (HR.out.alloc _) (by simp [HX.out]) (by simp) ?_; intro v' w1 ho hg _; obtain ⟨A', c', e', h1, h2, -, -⟩ := Own.form ho; rw [List.nil_append, HX.out] at e' h1; subst e'; have HO := Lib.hid ho; have HG := Lib.hid hg; have H1 := Lib.hid h1; have H2 := Lib.hid h2; clear ho hg h1 h2))
  go_ret
  obtain ⟨b, rfl, hb1, hb2⟩ := OwnV.head0 HO.out (by rw [vbs_length, List.nil_append, HX.out]; omega)
  refine ⟨w1.heap.size, b, c', rfl, heap_alloc_new _ _, (Own.info HO.out).2.2.1.alloc _, H1.out, H2.out, hb2, ?_, (((FB.refl w).alloc _).grown HG.out (by simp [Value.ownBlock])).alloc _⟩
  have := HG.out.size
  simp at this; omega
set_option maxHeartbeats 1000000 in
theorem rr_take (xs : List Byte) (g b c : Nat) (w : World) (hx : xs.length = 4) (hrow : w.heap[g]? = some (.cells #[.slice (some ⟨b, 0, none⟩) 4 c, .int .i64 0] 104 (0, 0))) (hr : Rd w (some ⟨b, 0, none⟩) xs) (h4 : 4 ≤ c) (hm : c ≤ maxLen) :
    Calls Tryd.prog 55 #[.pointer (some ⟨g, 0, none⟩), .int .i64 4] w fun e w' => ∃ A' c', e = .returned (.tuple #[.slice A' 4 c', .bool true]) ∧ Rd w' A' xs ∧ TS [g] w w' := by
  have HR := Lib.hid hr
  have HX := Lib.hid hx
  have HROW := Lib.hid hrow
  have HM := Lib.hid hm
  have hm2 : (c : Int) ≤ 9223372036854775807 := by unfold maxLen at hm; omega
  have h4z : (4 : Int) ≤ (c : Int) := by omega
  obtain ⟨q0, q1⟩ := row2 hrow
  obtain ⟨r0, r1⟩ := row2 ((((FB.refl w).alloc (.cells #[] 5)).block _ (Array.getElem?_eq_some_iff.1 hrow).1).trans hrow)
  clear hr hx hrow hm
  go_enter Tryd.func55, Tryd.ntmps55
  go_upto_region 6 with (at_builtin; refine wpList_append_bytes rfl _ _ rfl w.heap.size _ [] (OwnV.lit _ w [] (by simp)) rfl (some ⟨b, 0, none⟩) c xs (by rw [HX.out]; rfl) (HR.out.alloc _) (by simp [HX.out]) (by simp) ?_; intro v' w1 ho hg _; have HO := Lib.hid ho; have HG := Lib.hid hg; clear ho hg)
  have HO1 := Lib.hid (show Own w1 w.heap.size v' xs from by have := HO.out; rwa [List.nil_append] at this)
  have hfb := ((FB.refl w).alloc (.cells #[] 5)).grown HG.out (by simp [Value.ownBlock])
  have hrow1 := (hfb.block _ (Array.getElem?_eq_some_iff.1 HROW.out).1).trans HROW.out
  obtain ⟨s0, s1⟩ := row2 hrow1
  have sf := frozen_row _ hrow1 0
  have HTS := Lib.hid (fun v0 => show TS [g] w (w1.setCell ⟨g, 0, none⟩ v0) from (TS.of hfb).then (TS.tb (TB.set w1 0 _) (by simp)))
  obtain ⟨A', c', rfl, -, -, h3, -⟩ := Own.form HO1.out
  have HRD := Lib.hid (fun v0 => (show TS [g] w1 (w1.setCell ⟨g, 0, none⟩ v0) from TS.tb (TB.set w1 0 _) (by simp)).rd h3 (fun ad ha hm => by
    have h1 := ((Own.info HO1.out).2.2.2.2 ad ha).1
    have h2 := (Array.getElem?_eq_some_iff.1 HROW.out).1
    simp at hm; omega))
  rw [HX.out]
  clear q0 q1 r0 r1 HO HG HO1 hfb hrow1 HR HROW h3
  by_cases h5 : c = 4
  · subst h5
    go_wp2_with fail
    go_ret2
    exact ⟨A', c', rfl, HRD.out _, HTS.out _⟩
  · have h6 : 4 < c := by omega
    have h7 : (4 : Int) < (c : Int) := by omega
    go_wp2_with fail
    go_ret2
    exact ⟨A', c', rfl, HRD.out _, HTS.out _⟩
set_option maxHeartbeats 1000000 in
theorem rr_Word (xs : List Byte) (g b c : Nat) (w : World) (hx : xs.length = 4) (hrow : w.heap[g]? = some (.cells #[.slice (some ⟨b, 0, none⟩) 4 c, .int .i64 0] 104 (0, 0))) (hr : Rd w (some ⟨b, 0, none⟩) xs) (h4 : 4 ≤ c) (hm : c ≤ maxLen) :
    Calls Tryd.prog 39 #[.pointer (some ⟨g, 0, none⟩), .int .i64 4] w fun e w' => e = .returned (.int .u64 (nb (xword xs))) ∧ TS [g] w w' := by
  have HC := Lib.hid (rr_take xs g b c w hx hrow hr h4 hm)
  have HX := Lib.hid hx
  obtain ⟨q0, q1⟩ := row2 hrow
  clear hx hrow hr h4 hm
  go_enter Tryd.func39, Tryd.ntmps39
  go_wp2_with fail
  refine HC.out.mono ?_
  rintro e w1 ⟨A', c', rfl, hr, hts⟩
  have HR := Lib.hid hr
  have HTS := Lib.hid hts
  clear hr hts q0 q1 HC
  go_wp2_with fail
  go_loop [7, 8] (fun s i => ∃ j : Nat, j ≤ 4 ∧ i = .int .i64 j ∧ s = .int .u64 (nb (xword (xs.take j)))) (fun _ i => 4 - (intOf i).toNat)
  case atStart => exact ⟨0, by omega, rfl, by simp [xword, nb_zero]⟩
  case round =>
    obtain ⟨j, hj, rfl, rfl⟩ := hrel
    by_cases hlt : j < 4
    · obtain ⟨b0, o0, rfl, hb0, hcell⟩ := HR.out.form (by rw [HX.out]; omega)
      have hc := hcell j (by rw [HX.out]; omega)
      have HS := Lib.hid (show xword (xs.take (j + 1)) = xword (xs.take j) + ((xs[j]'(by rw [HX.out]; omega)).setWidth 64) <<< (8 * j) by
        rw [List.take_succ_eq_append_getElem (by rw [HX.out]; omega), xword_add, show (xs.take j).length = j by rw [List.length_take, HX.out]; omega])
      clear hcell
      have hjx : (j : Int) < 4 := by omega
      generalize xs[j]'(by rw [HX.out]; omega) = y at *
      generalize xword (xs.take j) = s at *
      have hsh : IntKind.u64.wrap (nb y * 2 ^ (8 * j)) = nb (y.setWidth 64 <<< (8 * j)) := by rw [← wrap_shl, nb_setWidth y (by omega)]
      have hor := wrap_add64 s (y.setWidth 64 <<< (8 * j))
      unfold vb at hc
      have hwy : IntKind.u64.wrap (nb y) = nb y := by rw [wrap_u64]; exact Int.emod_eq_of_lt (nb_nonneg _) (by have := nb_lt8 y; omega)
      go_wp2
      go_round
      case rel => exact ⟨j + 1, by omega, by go_num, by rw [HS.out, ← hor, ← hsh]⟩
      case measure => simp [intOf]; omega
    · obtain rfl : j = 4 := by omega
      go_wp2
      go_ret
      exact ⟨by rw [List.take_of_length_le (by rw [HX.out]; omega)]; rfl, HTS.out⟩
end Go.Proofs.YtoidlmhebnlnbaaDoor
/- The walks through the reference of chapter 3, and the chapter's examples. -/
set_option linter.unusedVariables false
set_option linter.unusedSimpArgs false
namespace Go.Proofs.YtoidlmhebnlnbaaDoor
open Go.ChangeShapes Go.WideShapes Go.ChangeAt Go.RowKit
attribute [local go_sem] nb_beq nb_bne nb_beq1 nb_mod8 nb_mod2 nb_tmod2 nb_shr_8 nb_shr_1 bits_xor32 bits_and32 bits_xor8 bits_xor32l bits_and32l bits_not32 BitVec.setWidth_eq nb_nonneg nb_lt8

theorem info_tab : (Tryd.prog.info? 123).map (·.size) = some 256 := (zero_of_info zero_tab).2

theorem size_tab' {T : Array Value} (h : TabTo T 256) : (Tryd.prog.info? 123).map (·.size) = some T.toList.length := by rw [Array.length_toList, h.1]; exact info_tab
set_option maxRecDepth 100000 in
set_option maxHeartbeats 400000 in
theorem ref_On (T : Array Value) (t : Byte → BitVec 32) (s : BitVec 32) (xs : List Byte) (A : Option Addr) (c : Nat) (w : World) (hc : xs.length ≤ c) (hm : c ≤ maxLen) (hr : Rd w A xs) (hT : IsTab T t) :
    Calls Tryd.prog 71 #[.agg T, .int .u32 (nb s), .slice A xs.length c] w fun e w' => e = .returned (.int .u32 (nb (crcOn t s xs))) ∧ w.alloc (.cells T 123) = w' := by
  have HT := Lib.hid hT
  have HR := Lib.hid hr
  clear hT hr
  unfold maxLen at hm
  go_enter Tryd.func71, Tryd.ntmps71
  go_wp2
  go_loop [7, 8] (fun st i => ∃ k : Nat, k ≤ xs.length ∧ i = .int .i64 k ∧ st = .int .u32 (nb ((xs.take k).foldl (crcStep t) (~~~ s)))) (fun _ i => xs.length - (intOf i).toNat)
  case atStart => exact ⟨0, by omega, rfl, by simp⟩
  case round =>
    obtain ⟨k, hk, rfl, rfl⟩ := hrel
    by_cases hlt : k < xs.length
    · obtain ⟨b, o, rfl, hb, hcell⟩ := HR.out.form (by omega)
      have hck := hcell k hlt
      unfold vb at hck
      clear hcell
      have hsn : List.foldl (crcStep t) (~~~s) (List.take (k + 1) xs) = crcStep t (List.foldl (crcStep t) (~~~s) (List.take k xs)) xs[k] := by
        rw [List.take_succ_eq_append_getElem hlt, List.foldl_append]; rfl
      have HS := Lib.hid hsn
      clear hsn
      generalize hst : List.foldl (crcStep t) (~~~s) (List.take k xs) = st at *
      have HST := Lib.hid hst
      clear hst
      generalize hx : xs[k] = x at *
      have HX := Lib.hid hx
      clear hx
      have ht := HT.out.2 (st.setWidth 8 ^^^ x)
      go_wp2
      go_round
      case rel => exact ⟨k + 1, by omega, by go_num, by rw [HS.out]; rfl⟩
      case measure => simp [intOf]; omega
    · go_wp2
      go_ret
      have : k = xs.length := by omega
      subst this
      exact ⟨by simp [crcOn], rfl⟩

set_option maxRecDepth 100000 in
set_option maxHeartbeats 400000 in
theorem ref_Table (w : World) :
    Calls Tryd.prog 72 #[] w fun e w' => ∃ T, e = .returned (.agg T) ∧ TabTo T 256 ∧ Below w.heap.size w w' := by
  have hz := (zero_of_info zero_tab).1
  go_enter Tryd.func72, Tryd.ntmps72
  go_wp2
  clear hz
  go_loopw [2, 3, 4] (fun i _ _ wr => ∃ k C, k ≤ 256 ∧ i = .int .i64 (k : Nat) ∧ wr = (w.alloc (.cells zeroTab 123)).alloc (.cells C 123) ∧ TabTo C k) (fun i _ _ _ => 256 - (intOf i).toNat)
  case atStart => exact ⟨0, zeroTab, by omega, rfl, rfl, TabTo.zero⟩
  case round =>
    obtain ⟨k, C, hk, rfl, rfl, hC⟩ := hrel
    by_cases hlt : k < 256
    · obtain ⟨v, hv⟩ := hC.at k hlt
      have hset := hC.set hlt
      have HC := Lib.hid hset
      clear hC hset
      go_wp2
      go_loop [3, 4] (fun x j => ∃ n : Nat, n ≤ 8 ∧ j = .int .i64 n ∧ x = .int .u32 (nb (crcBits n (BitVec.ofNat 32 k)))) (fun _ j => 8 - (intOf j).toNat)
      case atStart => exact ⟨0, by omega, rfl, by rw [show crcBits 0 (BitVec.ofNat 32 k) = BitVec.ofNat 32 k from rfl, ofNat32_nb k hlt]⟩
      case round =>
        obtain ⟨n, hn, rfl, rfl⟩ := hrel
        by_cases hln : n < 8
        · have hsucc := crcBits_succ n (BitVec.ofNat 32 k)
          have HS := Lib.hid hsucc
          clear hsucc
          generalize crcBits n (BitVec.ofNat 32 k) = x at *
          by_cases hb : x &&& 1#32 = 1#32
          · have hb1 : (x &&& 1#32 == 1#32) = true := by rw [hb]; rfl
            have HE : crcBit x = (x >>> 1) ^^^ 0x82f63b78#32 := by unfold crcBit; rw [if_pos hb]
            have HE := Lib.hid HE
            clear hb
            go_wp2
            go_round
            case rel => exact ⟨n + 1, by omega, by go_num, by rw [HS.out, HE.out]⟩
            case measure => simp [intOf]; omega
          · have hb1 : (x &&& 1#32 == 1#32) = false := beq_eq_false_iff_ne.2 hb
            have HE : crcBit x = x >>> 1 := by unfold crcBit; rw [if_neg hb]
            have HE := Lib.hid HE
            clear hb
            go_wp2
            go_round
            case rel => exact ⟨n + 1, by omega, by go_num, by rw [HS.out, HE.out]⟩
            case measure => simp [intOf]; omega
        · obtain rfl : n = 8 := by omega
          go_wp2
          go_roundw
          case rel => exact ⟨k + 1, _, by omega, by go_num, rfl, HC.out⟩
          case measure => simp [intOf]; omega
    · obtain rfl : k = 256 := by omega
      have hsz : (Tryd.prog.info? 123).map (·.size) = some C.size := by rw [hC.1]; exact info_tab
      have hall : C.all (·.oneCell') = true := by rw [← Array.all_toList]; exact List.all_eq_true.2 hC.2.1
      have hl := run_loadAt_new (P := Tryd.prog) (w.alloc (.cells zeroTab 123)) 123 C 256 41 Tryd.underlying123 hsz
      rw [show (w.alloc (.cells zeroTab 123)).heap.size = w.heap.size + 1 from by simp] at hl
      have hs : (Instr.storeAt 123 (.pointer (some ⟨w.heap.size, 0, none⟩)) (.agg C)).run Tryd.prog ((w.alloc (.cells zeroTab 123)).alloc (.cells C 123)) = .ok () (((w.alloc (.cells zeroTab 123)).alloc (.cells C 123)).setRow w.heap.size C) := by
        simp only [Instr.storeAt, Instr.sureAddr, Sem.run_bind, Sem.run_pure, Result.andThen]
        exact run_storeVar_row _ _ _ _ zeroTab C (heap_alloc2_old _ _ _) hsz (by rw [zeroTab_size, hC.1]) hall
      have hg : (((w.alloc (.cells zeroTab 123)).alloc (.cells C 123)).setRow w.heap.size C).heap[w.heap.size]? = some (.cells C 123 (0, 0)) := setRow_heap _ _ zeroTab C _ _ (heap_alloc2_old _ _ _)
      have hbl : Below w.heap.size w (((w.alloc (.cells zeroTab 123)).alloc (.cells C 123)).setRow w.heap.size C) :=
        ⟨rfl, rfl, rfl, by simp [World.setRow]; omega, fun k hk => (setRow_other _ w.heap.size k C (by omega)).trans ((Below.heap_alloc _ _ k (by simp; omega)).trans (Below.heap_alloc _ _ k hk))⟩
      have HC := Lib.hid hC
      have HZ := Lib.hid hsz
      have HG := Lib.hid hg
      have HB := Lib.hid hbl
      clear hC hsz hall hg hbl
      generalize hW : ((w.alloc (.cells zeroTab 123)).alloc (.cells C 123)).setRow w.heap.size C = W at *
      clear hW
      go_wp2_with (first | (refine wpList_load_by rfl _ _ rfl _ hl ?_) | (refine wpList_store_by rfl _ _ _ rfl _ hs ?_))
      exact bodyPost_ret (v := .agg C) (results_cell_row Tryd.results72 _ _ w.heap.size 123 C (0, 0) _ rfl HG.out Tryd.underlying123 rfl HZ.out) rfl ⟨C, rfl, HC.out, HB.out⟩

set_option maxRecDepth 100000 in
set_option maxHeartbeats 400000 in
theorem ref_Sum (xs : List Byte) (A : Option Addr) (c : Nat) (w : World) (hc : xs.length ≤ c) (hm : c ≤ maxLen) (hr : Rd w A xs) :
    Calls Tryd.prog 54 #[.slice A xs.length c] w fun e w' => e = .returned (.int .u32 (nb (crcSum xs))) ∧ Below w.heap.size w w' := by
  have HR := Lib.hid hr
  clear hr
  go_enter Tryd.func54, Tryd.ntmps54
  go_wp2_with fail
  refine (ref_Table _).mono ?_
  rintro e w1 ⟨T, rfl, hT, hb⟩
  have HT := Lib.hid hT
  have HB := Lib.hid hb
  clear hT hb
  go_wp2_with fail
  rw [show (0 : Int) = nb 0#32 from nb_zero.symm]
  refine (ref_On T crcT _ xs A c _ hc hm (HR.out.below HB.out) HT.out.tab).mono ?_
  rintro e w2 ⟨rfl, rfl⟩
  go_wp2
  go_ret
  exact ⟨rfl, HB.out.alloc HB.out.size _⟩

end Go.Proofs.YtoidlmhebnlnbaaDoor
/- the reference of layer 5: sum. -/
set_option linter.unusedVariables false
set_option linter.unusedSimpArgs false
namespace Go.Proofs.YtoidlmhebnlnbaaDoor
open Go.ChangeShapes Go.WideShapes Go.ChangeAt Go.RowKit
attribute [local go_sem] nb_nonneg nb_lt8 nb_lt64
set_option maxRecDepth 100000

theorem OwnV.cellset {e : TypeId} {w : World} {base n g c : Nat} {vs : List Value} (h : OwnV e w base (.slice (some ⟨g, 0, none⟩) n c) vs) {j : Nat} (hj : j < vs.length) :
    w.cell? ⟨g, j, none⟩ = some vs[j] ∧ w.frozen? ⟨g, j, none⟩ = false ∧ ∀ u, OwnV e (w.setCell ⟨g, j, none⟩ u) base (.slice (some ⟨g, 0, none⟩) n c) (vs.set j u) := by
  obtain ⟨_, _, _, hn, _⟩ := OwnV.info h
  subst hn
  have hr := h
  unfold OwnV at hr
  refine ⟨?_, World.ownsRow.frozenAt hr j, fun u => ?_⟩
  · rw [World.ownsRow.cellAt hr j (by omega), List.getElem?_eq_getElem hj]
  · have := (World.ownsRow.stored hr j u).1
    unfold OwnV
    rw [List.length_set]
    exact this
def zro (b : List Byte) (k : Nat) : List Byte := b.take 12 ++ (List.replicate k 0#8 ++ b.drop (12 + k))
theorem zro_zero (b : List Byte) : zro b 0 = b := by simp [zro]
theorem zro_four (b : List Byte) : zro b 4 = b.take 12 ++ (z4 ++ b.drop 16) := rfl
theorem zro_len {b : List Byte} {k : Nat} (h : 12 + k ≤ b.length) : (zro b k).length = b.length := by simp [zro]; omega
theorem zro_succ {b : List Byte} {k : Nat} (h : 12 + k < b.length) : (zro b k).set (12 + k) 0#8 = zro b (k + 1) := by
  have l12 : (b.take 12).length = 12 := by simp; omega
  unfold zro
  rw [List.set_append, if_neg (by omega), l12, List.set_append, if_neg (by simp), List.length_replicate, show 12 + k - 12 - k = 0 from by omega, List.drop_eq_getElem_cons h, List.set_cons_zero, List.replicate_succ', List.append_assoc, show 12 + (k + 1) = 12 + k + 1 from rfl]
  rfl
set_option maxHeartbeats 2000000 in
theorem r5_sum (b : List Byte) (A : Option Addr) (c : Nat) (w : World) (hl : b.length = 4096) (hr : Rd w A b) :
    Calls Tryd.prog 32 #[.slice A 4096 c] w fun e w' => e = .returned (.int .u32 (nb (crcSum (b.take 12 ++ (z4 ++ b.drop 16))))) ∧ FB w w' := by
  have HR := Lib.hid hr
  have HL := Lib.hid hl
  clear hr hl
  go_enter Tryd.func32, Tryd.ntmps32
  go_upto_region 2 with (at_builtin; refine wpList_append_bytes rfl _ _ rfl w.heap.size _ [] (OwnV.lit _ w [] (by simp)) rfl A c b (by rw [HL.out]; rfl) (HR.out.alloc _) (by simp [HL.out]) (by simp) ?_; intro v' w1 ho hg _; obtain ⟨A', c', e', -, -, -, -⟩ := Own.form ho; rw [List.nil_append, HL.out] at e'; subst e'; rw [List.nil_append] at ho; have HO := Lib.hid ho; have HG := Lib.hid hg; clear ho hg)
  obtain ⟨g, rfl, hg1, -⟩ := OwnV.head0 HO.out (by rw [vbs_length, HL.out]; omega)
  have HFB := Lib.hid (((FB.refl w).alloc (.cells #[] 5)).grown HG.out (by simp [Value.ownBlock]))
  have HGB := Lib.hid hg1
  clear hg1 HG
  go_wp2_with fail
  go_loopw [4] (fun c4 wl => ∃ k : Nat, k ≤ 4 ∧ c4 = .int .i64 (12 + (k : Int)) ∧ Hid (Own wl w.heap.size (.slice (some ⟨g, 0, none⟩) 4096 c') (zro b k)) ∧ Hid (FB w wl)) (fun c4 wl => 16 - (intOf c4).toNat)
  case atStart => exact ⟨0, by omega, rfl, Lib.hid (by rw [zro_zero]; exact HO.out), HFB.out⟩
  case round =>
    obtain ⟨k, hk, rfl, HOK, HW⟩ := hrel
    by_cases hlt : k < 4
    · obtain ⟨q, hq⟩ : ∃ q, q = 12 + k := ⟨_, rfl⟩
      rw [show (12 : Int) + (k : Int) = (q : Int) from by omega]
      have hq16 : (q : Int) < 16 := by omega
      have hq4 : (q : Int) < 4096 := by omega
      have hwq : IntKind.i64.wrap ((q : Int) + 1) = (q : Int) + 1 := by rw [IntKind.wrap_i64]; omega
      have HLZ := Lib.hid (show (zro b k).length = 4096 from by rw [zro_len (by rw [HL.out]; omega), HL.out])
      obtain ⟨s0, sf, sset⟩ := OwnV.cellset HOK.out (j := q) (by rw [vbs_length, HLZ.out]; omega)
      rw [vbs_get _ _ (by rw [HLZ.out]; omega)] at s0
      unfold vb at s0
      have HO2 := Lib.hid (show Own (wr.setCell ⟨g, q, none⟩ (.int .u8 0)) w.heap.size (.slice (some ⟨g, 0, none⟩) 4096 c') (zro b (k + 1)) from by
        have h1 := sset (vb 0#8)
        unfold Own
        rw [← zro_succ (by rw [HL.out]; omega), ← hq, show vbs ((zro b k).set q 0#8) = (vbs (zro b k)).set q (vb 0#8) from by unfold vbs; rw [List.map_set]]
        exact h1)
      have HW2 := Lib.hid (HW.out.set (p := ⟨g, q, none⟩) HGB.out (.int .u8 0))
      have HQ := Lib.hid hq
      have HLT := Lib.hid hlt
      generalize (zro b k)[q]'(by rw [HLZ.out]; omega) = zq at *
      clear sset hq hlt hk
      go_wp2_with fail
      go_roundw
      case rel => exact ⟨k + 1, by have := HLT.out; omega, by have := HQ.out; go_num, HO2.out, HW2.out⟩
      case measure => have := HQ.out; have := HLT.out; simp [intOf]; omega
    · obtain rfl : k = 4 := by omega
      have hcw := ref_Sum (zro b 4) (some ⟨g, 0, none⟩) c' wr (Own.info HOK.out).1 (Own.info HOK.out).2.1 (Own.info HOK.out).2.2.1
      rw [zro_len (by rw [HL.out]; omega), HL.out, zro_four] at hcw
      have HC := Lib.hid hcw
      rw [show (12 : Int) + ((4 : Nat) : Int) = 16 from rfl]
      clear hcw hk hlt
      go_wp2_with fail
      refine HC.out.mono ?_
      rintro e w5 ⟨rfl, hb⟩
      have HE := Lib.hid (HW.out.call hb)
      clear hb
      go_wp2
      go_ret
      exact ⟨rfl, HE.out⟩
end Go.Proofs.YtoidlmhebnlnbaaDoor
/- the reference of layer 5: Bytes. -/
set_option linter.unusedVariables false
set_option linter.unusedSimpArgs false
namespace Go.Proofs.YtoidlmhebnlnbaaDoor
open Go.ChangeShapes Go.WideShapes Go.ChangeAt Go.RowKit
attribute [local go_sem] nb_nonneg nb_lt8 nb_lt64
set_option maxRecDepth 100000

theorem append_none (w : World) {base : Nat} {A : Option Addr} {l c : Nat} (xs : List Byte) (h : Own w base (.slice A l c) xs) (hl : xs.length = l) (h0 : 0 < l) (ty : TypeId) :
    (Builtin.append_ #[27, 3] ty #[.slice A l c, .int .i64 ((0 : Nat) : Int)]).run Tryd.prog w = .ok (.slice A l c) w := by
  obtain ⟨i, hi, hz, hsz, hby⟩ := info_parts info_u8
  have hc := (Own.info h).1
  rw [hl] at hc
  obtain ⟨g, rfl, -, -⟩ := OwnV.head0 h (by rw [vbs_length]; omega)
  have hw : IntKind.i64.wrap 0 = 0 := rfl
  simp [Builtin.append_, run_underlying Tryd.underlying27, run_underlying Tryd.underlying3, sizeOf, typeInfo, hi, hsz, hby, asInt, asIntOf, hw, hc, storeCells]
set_option maxHeartbeats 4000000 in
theorem r5_Bytes (K : Int) (n : BitVec 32) (x : List Byte) (A : Option Addr) (c : Nat) (w : World) (hx : x.length ≤ 1000000000) (hr : Rd w A x) :
    Calls Tryd.prog 15 #[.agg #[.int .i64 K, .int .u32 (nb n), .slice A x.length c]] w fun e w' => PgBy (pgB K n x) w e w' := by
  have HF := Lib.hid ((FB.refl w).alloc (.cells #[.int .i64 K, .int .u32 (nb n), .slice A x.length c] 45))
  have HR := Lib.hid hr
  obtain ⟨R, hR⟩ : ∃ R, R = pgB K n x := ⟨_, rfl⟩
  rw [← hR]
  unfold pgB at hR
  clear hr
  by_cases h1 : K < 1
  · obtain rfl : R = ([], 2) := by rw [hR, if_neg (by rw [pgOk_iff]; omega)]
    clear hR
    go_enter Tryd.func15, Tryd.ntmps15
    go_wp2
    go_ret2
    exact ⟨none, 0, rfl, Own.nil _ _, HF.out⟩
  · by_cases h2 : 7 < K
    · obtain rfl : R = ([], 2) := by rw [hR, if_neg (by rw [pgOk_iff]; omega)]
      clear hR
      go_enter Tryd.func15, Tryd.ntmps15
      go_wp2
      go_ret2
      exact ⟨none, 0, rfl, Own.nil _ _, HF.out⟩
    · by_cases h3 : 4080 < x.length
      · obtain rfl : R = ([], 2) := by rw [hR, if_neg (by rw [pgOk_iff]; omega)]
        have h3z : 4080 < (x.length : Int) := by omega
        clear hR h3
        go_enter Tryd.func15, Tryd.ntmps15
        go_wp2
        go_ret2
        exact ⟨none, 0, rfl, Own.nil _ _, HF.out⟩
      · rw [if_pos (pgOk_iff.2 (by omega))] at hR
        have HRR := Lib.hid hR
        have h3z : ¬ 4080 < (x.length : Int) := by omega
        have HX := Lib.hid (show x.length ≤ 4080 from by omega)
        have hwK : IntKind.u8.wrap K = K := by rw [IntKind.wrap_u8]; omega
        have hwn : IntKind.u64.wrap (nb n) = nb n := by rw [wrap_u64]; have := nb_lt32 n; have := nb_nonneg n; omega
        obtain ⟨k, hk⟩ : ∃ k, k = BitVec.ofInt 8 K := ⟨_, rfl⟩
        have HKN := Lib.hid (show nb k = K from by rw [hk]; exact nb_kind (by omega))
        rw [← hk] at HRR
        have HLIT := Lib.hid (show ∀ W : World, Rd (W.alloc (.cells #[.int .u8 84, .int .u8 77, .int .u8 1, .int .u8 K] 5)) (some ⟨W.heap.size, 0, none⟩) [0x54#8, 0x4d#8, 1#8, k] from fun W => by
          unfold Rd
          rw [show vbs [0x54#8, 0x4d#8, 1#8, k] = [.int .u8 84, .int .u8 77, .int .u8 1, .int .u8 K] from by rw [← HKN.out]; rfl]
          exact RdV.lit W [.int .u8 84, .int .u8 77, .int .u8 1, .int .u8 K] 5 rfl)
        have HWD := Lib.hid (fun W => by
          have := ref_Word [0x54#8, 0x4d#8, 1#8, k] (some ⟨W.heap.size, 0, none⟩) 4 4 (n.setWidth 64) 4 (W.alloc (.cells #[.int .u8 84, .int .u8 77, .int .u8 1, .int .u8 K] 5)) rfl (by simp) (HLIT.out W) (.inr (.inl rfl))
          rw [nb_setWidth n (by omega)] at this
          exact this.mono (fun e w' h => by
            obtain ⟨v, h1, h2, h3⟩ := h
            exact (show ∃ v, e = .returned v ∧ Own w' W.heap.size v (hd8 k n) ∧ FB W w' from ⟨v, h1, h2.lower (by simp), ((FB.refl W).alloc _).call h3⟩)))
        have HBX := Lib.hid (heap_alloc_new w (.cells #[.int .i64 K, .int .u32 (nb n), .slice A x.length c] 45))
        clear hR hk h3
        go_enter Tryd.func15, Tryd.ntmps15
        go_wp2_with fail
        have hcw := HWD.out (w.alloc (.cells #[.int .i64 K, .int .u32 (nb n), .slice A x.length c] 45))
        simp only [World.size_alloc] at hcw
        refine hcw.mono ?_
        rintro e w1 ⟨v, rfl, ho, hb⟩
        obtain ⟨A1, c1, rfl, -, -, -, -⟩ := Own.form ho
        rw [hd8_len] at ho ⊢
        have HF1 := Lib.hid (HF.out.trans hb)
        have HBX1 := Lib.hid ((hb.block _ (Array.getElem?_eq_some_iff.1 HBX.out).1).trans HBX.out)
        have HG1 := Lib.hid (show w.heap.size + 1 ≤ w1.heap.size from by have := hb.le; simpa using this)
        have HO1 := Lib.hid ho
        have HLZ := Lib.hid (show ∀ W : World, Rd (W.alloc (.cells #[.int .u8 0, .int .u8 0, .int .u8 0, .int .u8 0, .int .u8 0, .int .u8 0, .int .u8 0, .int .u8 0] 5)) (some ⟨W.heap.size, 0, none⟩) (z4 ++ z4) from fun W => RdV.lit W (vbs (z4 ++ z4)) 5 rfl)
        clear hcw ho hb HWD HLIT HBX HF hwK hwn
        go_upto_region 6 with (at_builtin; refine wpList_append_bytes rfl _ _ rfl (w.heap.size + 1) _ _ (HO1.out.alloc _) rfl (some ⟨w1.heap.size, 0, none⟩) 8 (z4 ++ z4) rfl (HLZ.out w1) (by rw [hd8_len]; simp [z4]) (by have := HG1.out; simp; omega) ?_; intro v' w2 ho hg _; have HO2 := Lib.hid ho; have HG := Lib.hid hg; clear ho hg)
        have hlo := fun k hk => (OwnV.base HO1.out k hk).1
        have HF2 := Lib.hid ((HF1.out.alloc (.cells #[.int .u8 0, .int .u8 0, .int .u8 0, .int .u8 0, .int .u8 0, .int .u8 0, .int .u8 0, .int .u8 0] 5)).grown HG.out (fun k hk => by have := hlo k hk; omega))
        have HBX2 := Lib.hid ((HG.out.block _ (Nat.lt_of_lt_of_le (Array.getElem?_eq_some_iff.1 HBX1.out).1 (by simp)) (fun e => by have := hlo _ e.symm; omega)).trans (((FB.refl w1).alloc _).block _ (Array.getElem?_eq_some_iff.1 HBX1.out).1 |>.trans HBX1.out))
        have HS2 := Lib.hid (show w.heap.size + 1 ≤ w2.heap.size from (Array.getElem?_eq_some_iff.1 HBX2.out).1)
        have hl2 : (hd8 k n ++ (z4 ++ z4)).length = 16 := by simp [hd8_len, z4]
        obtain ⟨q0, q1, q2⟩ := prow3 HBX2.out
        clear hlo HG HO1 HLZ HBX1 HF1 HG1
        go_upto_region 7 with (at_builtin; refine wpList_append_bytes rfl _ _ rfl (w.heap.size + 1) _ _ HO2.out rfl A c x rfl (HF2.out.rd HR.out) (by rw [hl2]; have := HX.out; omega) HS2.out ?_; intro v' w3 ho hg _; have HO3 := Lib.hid ho; have HG := Lib.hid hg; clear ho hg)
        clear q0 q1 q2
        have hlo := fun k hk => (OwnV.base HO2.out k hk).1
        have HF3 := Lib.hid (HF2.out.grown HG.out (fun k hk => by have := hlo k hk; omega))
        have HS3 := Lib.hid (show w.heap.size + 1 ≤ w3.heap.size from Nat.le_trans HS2.out HG.out.size)
        have hl3 : (hd8 k n ++ (z4 ++ z4) ++ x).length = 16 + x.length := by rw [List.length_append, hl2]
        obtain ⟨A3, c3, e3, -, -, -, -⟩ := Own.form HO3.out
        rw [hl3] at e3
        subst e3
        have HO3' := Lib.hid HO3.out
        have hln : (hd8 k n ++ (z4 ++ z4) ++ x ++ List.replicate (4080 - x.length) 0#8) = pgB1 k n x := by
          unfold pgB1 pgPad; rw [pgHd_hd8]; simp only [List.append_assoc]
        obtain ⟨m, hm⟩ : ∃ m, m = 4080 - x.length := ⟨_, rfl⟩
        have hmz : (4096 : Int) - ((16 + x.length : Nat) : Int) = (m : Int) := by have := HX.out; omega
        have hmz2 : (4096 : Int) - (16 + (x.length : Int)) = (m : Int) := by have := HX.out; omega
        have hwm : IntKind.i64.wrap (m : Int) = (m : Int) := by rw [IntKind.wrap_i64]; omega
        obtain ⟨v2, w4, hrun, ho2, hgr⟩ : ∃ v' w', (∀ ty, (Builtin.append_ #[27, 3] ty #[.slice A3 (16 + x.length) c3, .int .i64 (m : Int)]).run Tryd.prog w3 = .ok v' w') ∧ Own w' (w.heap.size + 1) v' (pgB1 k n x) ∧ w3.grownBy w' (Value.slice A3 (16 + x.length) c3).ownBlock := by
          by_cases h0 : 0 < m
          · obtain ⟨v', w', h1, h2, h3⟩ := run_append_zeros w3 (w.heap.size + 1) _ _ HO3.out (by rw [hl3]; omega) m h0 (by rw [hl3]; omega) HS3.out
            rw [hm, hln] at h2
            exact ⟨v', w', h1, h2, h3⟩
          · have hm0 : m = 0 := by omega
            refine ⟨.slice A3 (16 + x.length) c3, w3, fun ty => by rw [hm0]; exact append_none w3 _ HO3.out (by rw [hl3]) (by omega) ty, ?_, World.grownBy.refl _ _⟩
            have q := HO3.out
            rw [show hd8 k n ++ (z4 ++ z4) ++ x = pgB1 k n x from by rw [← hln, ← hm, hm0]; simp] at q
            exact q
        have HRUN := Lib.hid hrun
        have hlo3 := fun k hk => (OwnV.base HO3.out k hk).1
        have HF4 := Lib.hid (HF3.out.grown hgr (fun k hk => by have := hlo3 k hk; omega))
        obtain ⟨A2, c2, rfl, hc2, hm2, -, -⟩ := Own.form ho2
        rw [pgB1_len k n HX.out] at ho2 hc2 HRUN
        obtain ⟨g, rfl, hg1, -⟩ := OwnV.head0 ho2 (by rw [vbs_length, pgB1_len k n HX.out]; omega)
        have HC2 := Lib.hid (And.intro hc2 hm2)
        have HO6 := Lib.hid ho2
        have HF6 := HF4
        have HGB := Lib.hid hg1
        clear hm hl3 hrun hgr hlo hlo3 ho2 hc2 hm2 hg1 hln HO3' HO3 HF3 HF2 HO2 HBX2 HG hl2
        go_upto_region 8 with (at_builtin; refine Lib.wpList_append_run _ rfl _ _ _ _ rfl _ _ rfl rfl _ _ (HRUN.out _) ?_)
        clear HRUN hmz hmz2 hwm
        have HCF := Lib.hid (show (12 : Int) ≤ (c2 : Int) ∧ (c2 : Int) ≤ 9223372036854775807 ∧ 12 < c2 from by have := HC2.out; simp only [maxLen] at this; omega)
        have hf2 := HCF.out.1
        have hf3 := HCF.out.2.1
        have hf6 : ¬ c2 = 12 := by have := HCF.out; omega
        generalize w4 = w6 at *
        obtain ⟨W0, hW0⟩ : ∃ W0 : World, W0 = w6 := ⟨_, rfl⟩
        rw [← hW0]
        refine region_sch (E := TS ([g])) ((0, true) :: (1, true) :: (2, true) :: (3, false) :: (4, true) :: (5, false) :: (6, false) :: []) (by kernel_rfl) (TS.refl _) (fun _ _ _ h k => TS.then h k) (fun _ _ d _ _ h => by cases d <;> exact h) (by kernel_rfl) ?_
        intro ops hops0
        have hops := Lib.hid hops0
        clear hops0
        have HF : TS ([g]) W0 W0.drew := TS.of (FB.refl _).drew
        have HD : FB W0 W0.drew := (FB.refl _).drew
        generalize W0.drew = wF0 at *
        rw [hW0] at HD
        have HFq := Lib.hid (HF6.out.trans HD)
        have HOq := Lib.hid (HD.own HO6.out)
        clear hW0 HD HF HF6 HO6
        repeat (refine sch_take (o := ?_) (v := ?_) (a' := ?_) (at_of hops.out ?_) ?_ (fun W hW => ?_) ?_ ?_; rotate_left 3; (focus (simp only [List.getElem?_toArray, List.getElem?_cons_zero, List.getElem?_cons_succ]; rfl)); (focus (rw [hops.out]; rfl)); (focus (go_simp; with_reducible rfl)); (focus (simp only [Act.put, List.setIfInBounds_toArray, List.set_cons_zero, List.set_cons_succ]; rfl)))
        have HCR := Lib.hid (show Calls Tryd.prog 32 #[.slice (some ⟨g, 0, none⟩) 4096 c2] wF0 fun e w' => e = .returned (.int .u32 (nb (pgSum k n x))) ∧ FB wF0 w' from by
          have h1 := r5_sum (pgB1 k n x) (some ⟨g, 0, none⟩) c2 wF0 (pgB1_len k n HX.out) (Own.info HOq.out).2.2.1
          rw [pgB1_take, pgB1_drop] at h1
          exact h1)
        (refine sch_call (o := ?_) (f := ?_) (args := ?_) (at_of hops.out ?_) ?_ ?_ ?_; rotate_left 3; (focus (simp only [List.getElem?_toArray, List.getElem?_cons_zero, List.getElem?_cons_succ]; rfl)); (focus (rw [hops.out]; rfl)); (focus (go_simp; constructor <;> with_reducible rfl)); (first | ((with_reducible refine (HCR.out).mono ?_); rintro e w7 ⟨rfl, hb⟩; refine ⟨_, rfl, (TS.of hb), ?_⟩; intro a' ha'; simp only [Act.put, List.setIfInBounds_toArray, List.set_cons_zero, List.set_cons_succ] at ha'; subst ha')))
        have HFr := Lib.hid (HFq.out.trans hb)
        have HOr := Lib.hid (FB.own hb HOq.out)
        clear hb HCR HOq HFq
        generalize hsm : pgSum k n x = sm at *
        have HSM := Lib.hid hsm
        have hws : IntKind.u64.wrap (nb sm) = nb sm := by rw [wrap_u64]; have := nb_lt32 sm; have := nb_nonneg sm; omega
        clear hsm
        repeat (refine sch_take (o := ?_) (v := ?_) (a' := ?_) (at_of hops.out ?_) ?_ (fun W hW => ?_) ?_ ?_; rotate_left 3; (focus (simp only [List.getElem?_toArray, List.getElem?_cons_zero, List.getElem?_cons_succ]; rfl)); (focus (rw [hops.out]; rfl)); (focus (go_simp; with_reducible rfl)); (focus (simp only [Act.put, List.setIfInBounds_toArray, List.set_cons_zero, List.set_cons_succ]; rfl)))
        have HW2 := Lib.hid (show Calls Tryd.prog 31 #[.slice none 0 0, .int .u64 (nb sm), .int .i64 4] w7 fun e w' => ∃ v, e = .returned v ∧ Own w' w7.heap.size v (oword 4 (sm.setWidth 64)) ∧ FB w7 w' from by
          have h1 := ref_Word [] none 0 0 (sm.setWidth 64) 4 w7 rfl (by simp) (Rd.nil _ _) (.inr (.inl rfl))
          rw [nb_setWidth sm (by omega)] at h1
          exact h1)
        (refine sch_call (o := ?_) (f := ?_) (args := ?_) (at_of hops.out ?_) ?_ ?_ ?_; rotate_left 3; (focus (simp only [List.getElem?_toArray, List.getElem?_cons_zero, List.getElem?_cons_succ]; rfl)); (focus (rw [hops.out]; rfl)); (focus (go_simp; constructor <;> with_reducible rfl)); (first | ((with_reducible refine (HW2.out).mono ?_); rintro e w8 ⟨v8, rfl, ho8, hb⟩; refine ⟨_, rfl, (TS.of hb), ?_⟩; intro a' ha'; simp only [Act.put, List.setIfInBounds_toArray, List.set_cons_zero, List.set_cons_succ] at ha'; subst ha')))
        obtain ⟨A8, c8, rfl, -, -, hr8, -⟩ := Own.form ho8
        have HFs := Lib.hid (HFr.out.trans hb)
        have HOs := Lib.hid (FB.own hb HOr.out)
        obtain ⟨w9, hrunc, hoc, htb⟩ := cp_run HOs.out 12 4084 (c2 - 12) A8 c8 (oword 4 (sm.setWidth 64)) hr8 (by rw [oword_len]; omega) (by rw [oword_len, pgB1_len k n HX.out]; omega)
        rw [pg_splice2 k n x (oword_len _ _)] at hoc
        rw [oword_len] at hrunc ⊢
        (refine cp_sch (o := ?_) (at_of hops.out ?_) ?_ (.tmp 41) (.tmp 45) 27 27 ?_ _ _ ?_ ?_ hrunc (TS.tb htb (by simp)) ?_; rotate_left 1; (focus (simp only [List.getElem?_toArray, List.getElem?_cons_zero, List.getElem?_cons_succ]; rfl)); (focus (rw [hops.out]; rfl)); (focus rfl); (focus rfl); (focus rfl))
        simp only [Act.put, List.setIfInBounds_toArray, List.set_cons_zero, List.set_cons_succ]
        refine sch_done ?_
        have HE := Lib.hid (HFs.out.ts (show TS [g] w8 w9 from TS.tb htb (by simp)) (fun y hy => by have := HGB.out; simp at hy; omega))
        have HO9 := Lib.hid (show Own w9 w.heap.size (.slice (some ⟨g, 0, none⟩) 4096 c2) (pgBytes k n x) from by
          unfold pgBytes; rw [HSM.out]; exact hoc.lower (by omega))
        clear hops hoc htb hrunc HOs HOr HFr HFs hr8 ho8 hb
        go_wp2
        go_ret2
        rw [HRR.out]
        exact ⟨some ⟨g, 0, none⟩, c2, by rw [pgBytes_len k n HX.out]; rfl, by rw [pgBytes_len k n HX.out]; exact HO9.out, HE.out⟩
end Go.Proofs.YtoidlmhebnlnbaaDoor
