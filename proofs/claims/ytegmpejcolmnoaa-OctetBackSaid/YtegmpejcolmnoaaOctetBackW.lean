/- The walk of OctetBack. -/
import Derived.Test.YtegmpejcolmnoaaOctQ
import Derived.Test.YtegmpejcolmnoaaOctetOrderW
set_option linter.unusedVariables false
set_option linter.unusedSimpArgs false
namespace Go.Proofs.Ytegmpejcolmnoaa
open Go.ChangeShapes Go.WideShapes Go.ChangeAt Go.RowKit
attribute [local go_sem] nb_nonneg nb_lt64 nb_lt8

theorem num_nilN (n : BitVec 64) (ln : Nat) (h : ln = (onum n).length) (w : World) : Calls Try.prog 30 #[.slice none 0 0, .int .u64 (nb n)] w fun e w' => ∃ A c, e = .returned (.slice A ln c) ∧ ln ≤ c ∧ c ≤ maxLen ∧ Rd w' A (onum n) ∧ FB w w' :=
  calls_sliceN h.symm (by have := oct_Number [] none 0 0 n w rfl (by simp) (Rd.nil _ _); exact this)
/-- What stands behind the number, of the words laid down so far. -/
def bws (m : BitVec 64) : Nat → List Byte
  | 0 => []
  | 1 => oword 2 m
  | 2 => oword 2 m ++ oword 4 m
  | _ => (oword 2 m ++ oword 4 m) ++ oword 8 m
def bwl : Nat → Nat | 0 => 0 | 1 => 2 | 2 => 6 | _ => 14
theorem bws_len (m : BitVec 64) : ∀ j, (bws m j).length = bwl j
  | 0 => rfl
  | 1 => by simp [bws, bwl, oword_len]
  | 2 => by simp [bws, bwl, oword_len]
  | _ + 3 => by simp [bws, bwl, oword_len]
theorem rdV_3 (w : World) (t : TypeId) (g : Nat) (hg : g = w.heap.size) : RdV (w.alloc (.cells #[.int .i64 2, .int .i64 4, .int .i64 8] t)) (some ⟨g, 0, none⟩) [.int .i64 2, .int .i64 4, .int .i64 8] := RdV.lit w [.int .i64 2, .int .i64 4, .int .i64 8] t hg
/-- The bytes that OctetBack reads. -/
def bx (n m : BitVec 64) (xs zs : List Byte) : List Byte := ((onum n ++ bws m 3) ++ oblock xs) ++ zs

theorem drop_at {α : Type} (ps qs : List α) (k : Nat) (h : ps.length = k) : (ps ++ qs).drop k = qs := by subst h; simp
theorem bx_form (n m : BitVec 64) (xs zs : List Byte) : bx n m xs zs = onum n ++ (oword 2 m ++ (oword 4 m ++ (oword 8 m ++ (oblock xs ++ zs)))) := by simp [bx, bws]
section
variable {n m : BitVec 64} {xs zs : List Byte} {ln : Nat} (h : ln = (onum n).length)
include h
theorem bx_0 : rnum ((bx n m xs zs).drop 0) 0 0#64 = .inr (n, ln) := by rw [List.drop_zero, bx_form, rnum_onum, h]
theorem bx_1 : ((bx n m xs zs).drop ln).take 2 = oword 2 m := by
  rw [bx_form, drop_at _ _ _ h.symm, List.take_left' (oword_len 2 m)]
theorem bx_2 : ((bx n m xs zs).drop (ln + 2)).take 4 = oword 4 m := by
  rw [bx_form, ← List.append_assoc, drop_at _ _ _ (by rw [List.length_append, oword_len, h]), List.take_left' (oword_len 4 m)]
theorem bx_3 : ((bx n m xs zs).drop (ln + 2 + 4)).take 8 = oword 8 m := by
  rw [bx_form, ← List.append_assoc, ← List.append_assoc, drop_at _ _ _ (by rw [List.length_append, List.length_append, oword_len, oword_len, h]), List.take_left' (oword_len 8 m)]
theorem bx_4 (hx : xs.length ≤ 3000) : rblk (bx n m xs zs) (ln + 2 + 4 + 8) = (xs, (bx n m xs zs).length - zs.length, 0) := by
  have e : bx n m xs zs = ((onum n ++ bws m 3) ++ onum (BitVec.ofNat 64 xs.length)) ++ (xs ++ zs) := by simp [bx, oblock]
  have el : (onum n ++ bws m 3).length = ln + 2 + 4 + 8 := by rw [List.length_append, bws_len, ← h]; rfl
  have hd : (bx n m xs zs).drop (ln + 2 + 4 + 8) = onum (BitVec.ofNat 64 xs.length) ++ (xs ++ zs) := by
    rw [e, List.append_assoc, drop_at _ _ _ el]
  have hn : (BitVec.ofNat 64 xs.length).toNat = xs.length := by rw [BitVec.toNat_ofNat]; omega
  have hl : (bx n m xs zs).length = ln + 2 + 4 + 8 + (onum (BitVec.ofNat 64 xs.length)).length + (xs.length + zs.length) := by rw [e, List.length_append, List.length_append, el, List.length_append]
  unfold rblk
  rw [hd, rnum_onum]
  simp only
  rw [if_neg (by rw [hn, hl]; omega), hn]
  have hd2 : (bx n m xs zs).drop (ln + 2 + 4 + 8 + (onum (BitVec.ofNat 64 xs.length)).length) = xs ++ zs := by
    rw [e, drop_at _ _ _ (by rw [List.length_append, el])]
  rw [hd2, List.take_left, hl]
  refine Prod.ext rfl (Prod.ext ?_ rfl)
  simp only
  omega
end
theorem nb_oword (q : Nat) (m : BitVec 64) (h : 8 * q ≤ 64) : nb (xword (oword q m)) = nb m % 2 ^ (8 * q) := by
  show ((xword (oword q m)).toNat : Int) = (m.toNat : Int) % 2 ^ (8 * q)
  rw [xword_oword q m h]; simp

theorem Own.head' {w : World} {base n : Nat} {A : Option Addr} {c : Nat} {xs : List Byte} (h : Own w base (.slice A n c) xs) (hn : 0 < n) : ∃ g, A = some ⟨g, 0, none⟩ ∧ base ≤ g ∧ g < w.heap.size := by
  rcases h.2 with ⟨h', h0⟩ | ⟨g, cap, cur, h', hb, hg, _⟩
  · simp at h'; omega
  · simp only [Value.slice.injEq] at h'
    exact ⟨g, h'.1, hb, (Array.getElem?_eq_some_iff.1 hg).1⟩
theorem Own.cellset' {w : World} {base n g : Nat} {c : Nat} {xs : List Byte} (h : Own w base (.slice (some ⟨g, 0, none⟩) n c) xs) {j : Nat} (hj : j < xs.length) :
    w.cell? ⟨g, j, none⟩ = some (vb xs[j]) ∧ w.frozen? ⟨g, j, none⟩ = false ∧ ∀ b : Byte, Own (w.setCell ⟨g, j, none⟩ (vb b)) base (.slice (some ⟨g, 0, none⟩) n c) (xs.set j b) := by
  obtain ⟨_, _, h3, hn, _⟩ := Own.info h
  subst hn
  have hr := h
  unfold Own OwnV at hr
  rw [vbs_length] at hr
  refine ⟨?_, World.ownsRow.frozenAt hr j, fun b => ?_⟩
  · rw [World.ownsRow.cellAt hr j (by omega), vbs_get? xs j hj]
  · have := (World.ownsRow.stored hr j (vb b)).1
    unfold Own OwnV
    rw [vbs_length, List.length_set, show vbs (xs.set j b) = (vbs xs).set j (vb b) from by simp [vbs, List.map_set]]
    exact this
set_option maxRecDepth 100000 in
set_option maxHeartbeats 4000000 in
theorem octetBack_few (n m : BitVec 64) (A0 : Option Addr) (c0 : Nat) (xs : List Byte) (A1 : Option Addr) (c1 : Nat) (zs : List Byte) (w : World) (h0 : xs.length ≤ 3000) (h1 : zs.length ≤ 3000) (hr0 : Rd w A0 xs) (hr1 : Rd w A1 zs) :
    Calls Try.prog 10 #[.int .u64 (nb n), .int .u64 (nb m), .slice A0 xs.length c0, .slice A1 zs.length c1] w fun e w' => e = .returned (.bool true) ∧ Below w.heap.size w w' := by
  have HR0 := Lib.hid hr0
  have HR1 := Lib.hid hr1
  clear hr0 hr1
  obtain ⟨ys, y, hys⟩ : ∃ ys y, onum n = ys ++ [y] := ⟨_, _, (List.dropLast_concat_getLast (List.ne_nil_of_length_pos (onum_len_pos n))).symm⟩
  have HYS := Lib.hid hys
  obtain ⟨lc, hlc⟩ : ∃ lc, lc = ys.length := ⟨_, rfl⟩
  have HLC := Lib.hid hlc
  have hln : lc + 1 = (onum n).length := by rw [hys, hlc, List.length_append]; rfl
  have HLN := Lib.hid hln
  have hlc9 : lc ≤ 9 := by have := onum_len10 n; omega
  obtain ⟨lm, hlm⟩ : ∃ lm, lm = (onum m).length := ⟨_, rfl⟩
  have HLM := Lib.hid hlm
  have hlm10 : lm ≤ 10 := by rw [hlm]; exact onum_len10 m
  obtain ⟨lk, hlk⟩ : ∃ lk, lk = (onum (BitVec.ofNat 64 xs.length)).length := ⟨_, rfl⟩
  have HLK := Lib.hid hlk
  have hlk10 : lk ≤ 10 := by rw [hlk]; exact onum_len10 _
  clear hys hlc hln hlm hlk
  go_enter Try.func10, Try.ntmps10
  go_wp2_with fail
  refine (oct_lives _).mono ?_
  rintro e w1 ⟨rfl, hb⟩
  have HB1 := Lib.hid ((FB.refl w).call hb)
  clear hb
  go_wp2_with fail
  refine (num_nilN n (lc + 1) HLN.out _).mono ?_
  rintro e w2 ⟨Ab, cb, rfl, kbc, kbm, kbr, hf⟩
  have HB2 := Lib.hid (HB1.out.trans hf)
  have HRB := Lib.hid kbr
  clear hf kbr
  go_wp2
  have HLIT := Lib.hid (rdV_3 w2 3 w2.heap.size rfl)
  have HFL := Lib.hid (show FB w2 (w2.alloc (.cells #[.int .i64 2, .int .i64 4, .int .i64 8] 3)) from (FB.refl w2).alloc _)
  go_loopw [9, 32] (fun v i wr => ∃ (j : Nat) (A : Option Addr) (c : Nat), j ≤ 3 ∧ i = .int .i64 j ∧ v = .slice A (lc + 1 + bwl j) c ∧ lc + 1 + bwl j ≤ c ∧ c ≤ maxLen ∧ Hid (Rd wr A (onum n ++ bws m j)) ∧ Hid (FB w2 wr) ∧ Hid (RdV wr (some ⟨w2.heap.size, 0, none⟩) [.int .i64 2, .int .i64 4, .int .i64 8])) (fun _ i _ => 3 - (intOf i).toNat)
  case atStart => exact ⟨0, Ab, cb, by omega, rfl, rfl, kbc, kbm, Lib.hid (by simpa [bws] using HFL.out.rd HRB.out), HFL.out, HLIT.out⟩
  case round =>
    obtain ⟨j, A, c, hj, rfl, rfl, hcq, hcm, HRQ, HF, HL⟩ := hrel
    by_cases hlt : j < 3
    · have hq : ∃ q : Nat, (q = 2 ∨ q = 4 ∨ q = 8) ∧ wr.cell? ⟨w2.heap.size, j, none⟩ = some (.int .i64 (q : Int)) ∧ bwl (j + 1) = bwl j + q ∧ bws m (j + 1) = bws m j ++ oword q m := by
        obtain ⟨b0, o0, hbo, hb0, hcell⟩ := HL.out.form (by simp)
        cases hbo
        have hc := hcell j (by simpa using hlt)
        rw [Nat.zero_add] at hc
        obtain rfl | rfl | rfl : j = 0 ∨ j = 1 ∨ j = 2 := by omega
        · exact ⟨2, by omega, hc, rfl, rfl⟩
        · exact ⟨4, by omega, hc, rfl, rfl⟩
        · exact ⟨8, by omega, hc, rfl, rfl⟩
      obtain ⟨q, hq8, hcell, hbl, hbw⟩ := hq
      have HBL := Lib.hid hbl
      have HBW := Lib.hid hbw
      have HQ8 := Lib.hid hq8
      have hb14 : bwl j ≤ 14 := by obtain rfl | rfl | rfl : j = 0 ∨ j = 1 ∨ j = 2 := by omega
                                   all_goals decide
      clear hbl hbw hq8
      go_wp2_with fail
      refine (oct_WordN q (q : Int) rfl HQ8.out (onum n ++ bws m j) A (lc + 1 + bwl j) c m _ (by rw [List.length_append, bws_len, ← HLN.out]) hcq hcm (by omega) HRQ.out).mono ?_
      rintro e w3 ⟨Aq, cq, rfl, kqc, kqm, kqr, hf⟩
      rw [List.append_assoc, ← HBW.out] at kqr
      rw [Nat.add_assoc, ← HBL.out] at kqc ⊢
      have HRQ2 := Lib.hid kqr
      have HF2 := Lib.hid (HF.out.trans hf)
      have HL2 := Lib.hid (hf.rdV HL.out)
      clear kqr hf
      go_wp2
      go_roundw
      case rel => exact ⟨j + 1, Aq, cq, by omega, by go_num, rfl, kqc, kqm, HRQ2.out, HF2.out, HL2.out⟩
      case measure => simp [intOf]; omega
    · obtain rfl : j = 3 := by omega
      have HRQ0 := Lib.hid (show Rd wr A (onum n ++ bws m 3) from HRQ.out)
      have HB3 := Lib.hid (HB2.out.trans HF.out)
      rw [show bwl 3 = 14 from rfl] at hcq ⊢
      clear HRQ HL HF HLIT HFL HRB
      have HXL := Lib.hid (show ((onum n ++ bws m 3) ++ oblock xs).length = lc + 1 + 14 + (lk + xs.length) by rw [List.length_append, List.length_append, bws_len, oblock, List.length_append, ← HLN.out, ← HLK.out]; rfl)
      have HBL := Lib.hid (show (bx n m xs zs).length = lc + 1 + 14 + (lk + xs.length) + zs.length by rw [bx, List.length_append, HXL.out])
      go_wp2_with fail
      refine (oct_Block (onum n ++ bws m 3) xs A A0 _ c _ c0 _ (by rw [List.length_append, bws_len, ← HLN.out]; rfl) rfl (by rw [List.length_append, bws_len, ← HLN.out, show bwl 3 = 14 from rfl]; omega) (by omega) HRQ0.out (HB3.out.rd HR0.out)).mono ?_
      rintro e w4 ⟨v4, rfl, ho, hb⟩
      have HO4 := Lib.hid ho
      have HB4 := Lib.hid (HB3.out.call hb)
      have HLE4 := Lib.hid (show wr.heap.size ≤ w4.heap.size from Below.size hb)
      clear ho hb HRQ0
      go_wp2_with (at_builtin; refine wpList_append_bytes rfl _ _ rfl wr.heap.size _ ((onum n ++ bws m 3) ++ oblock xs) HO4.out rfl A1 c1 zs rfl (HB4.out.rd HR1.out) (by rw [HXL.out]; omega) HLE4.out ?_; intro v' w5 ho hg _; have HO5 := Lib.hid ho; have HG5 := Lib.hid hg; clear ho hg)
      obtain ⟨A5, c5, hv5, k5c, k5m, k5r, -⟩ := Own.form HO5.out
      subst hv5
      have HB5 := Lib.hid (HB4.out.grown HG5.out (fun k hk => Nat.le_trans HB3.out.le (Own.bnd HO4.out k hk)))
      have HR5 := Lib.hid (show Rd w5 A5 (bx n m xs zs) from k5r)
      rw [show ((onum n ++ bws m 3) ++ oblock xs ++ zs).length = (bx n m xs zs).length from rfl, HBL.out]
      clear k5r HO4 HG5 HO5 HLE4
      go_wp2_with fail
      refine (oct_New (bx n m xs zs) A5 _ c5 _ HBL.out.symm (by rw [HBL.out]; omega) HR5.out).mono ?_
      rintro e w6 ⟨g, rfl, hr, hb⟩
      have HK6 := Lib.hid hr
      have HB6 := Lib.hid (HB5.out.call hb)
      have HG := Lib.hid (show w.heap.size ≤ g from Nat.le_trans HB5.out.le hr.bg)
      clear hr hb HR5
      have HXB := Lib.hid (show (bx n m xs zs).length ≤ 100000000000000 by rw [HBL.out]; omega)
      have HC0 := Lib.hid (fun (W : World) (h : Rdr W w5.heap.size g (bx n m xs zs) 0 0) => show Calls Try.prog 40 #[.pointer (some ⟨g, 0, none⟩)] W fun e w' => e = .returned (.int .u64 (nb n)) ∧ Rdr w' w5.heap.size g (bx n m xs zs) (lc + 1) 0 ∧ TB g W w' from by
        have q := oct_RNumber h HXB.out
        rw [bx_0 HLN.out, show 0 + numLen (.inr (n, lc + 1)) = lc + 1 from Nat.zero_add _] at q; exact q)
      have HC1 := Lib.hid (fun (W : World) (h : Rdr W w5.heap.size g (bx n m xs zs) (lc + 1) 0) => show Calls Try.prog 41 #[.pointer (some ⟨g, 0, none⟩), .int .i64 2] W fun e w' => e = .returned (.int .u64 (nb m % 65536)) ∧ Rdr w' w5.heap.size g (bx n m xs zs) (lc + 1 + 2) 0 ∧ TB g W w' from by
        have q := oct_RWord_ok h 2 (by omega) (by rw [HBL.out]; omega) HXB.out
        rw [bx_1 HLN.out, nb_oword 2 m (by omega)] at q; exact q)
      have HC2 := Lib.hid (fun (W : World) (h : Rdr W w5.heap.size g (bx n m xs zs) (lc + 1 + 2) 0) => show Calls Try.prog 41 #[.pointer (some ⟨g, 0, none⟩), .int .i64 4] W fun e w' => e = .returned (.int .u64 (nb m % 4294967296)) ∧ Rdr w' w5.heap.size g (bx n m xs zs) (lc + 1 + 2 + 4) 0 ∧ TB g W w' from by
        have q := oct_RWord_ok h 4 (by omega) (by rw [HBL.out]; omega) HXB.out
        rw [bx_2 HLN.out, nb_oword 4 m (by omega)] at q; exact q)
      have HC3 := Lib.hid (fun (W : World) (h : Rdr W w5.heap.size g (bx n m xs zs) (lc + 1 + 2 + 4) 0) => show Calls Try.prog 41 #[.pointer (some ⟨g, 0, none⟩), .int .i64 8] W fun e w' => e = .returned (.int .u64 (nb m)) ∧ Rdr w' w5.heap.size g (bx n m xs zs) (lc + 1 + 2 + 4 + 8) 0 ∧ TB g W w' from by
        have q := oct_RWord_ok h 8 (by omega) (by rw [HBL.out]; omega) HXB.out
        rw [bx_3 HLN.out, nb_oword 8 m (by omega), show nb m % 2 ^ (8 * 8) = nb m from Int.emod_eq_of_lt (nb_nonneg _) (nb_lt64 m)] at q; exact q)
      have HPL := Lib.hid (show ((bx n m xs zs).length : Int) - (((bx n m xs zs).length - zs.length : Nat) : Int) = (zs.length : Int) by rw [HBL.out]; omega)
      obtain ⟨pe, hpe⟩ : ∃ pe, pe = (bx n m xs zs).length - zs.length := ⟨_, rfl⟩
      have HC4 := Lib.hid (fun (W : World) (h : Rdr W w5.heap.size g (bx n m xs zs) (lc + 1 + 2 + 4 + 8) 0) => show Calls Try.prog 42 #[.pointer (some ⟨g, 0, none⟩)] W fun e w' => ∃ A c, e = .returned (.slice A xs.length c) ∧ Rd w' A xs ∧ (∀ ad, A = some ad → ad.block ≠ g) ∧ Rdr w' w5.heap.size g (bx n m xs zs) pe 0 ∧ TB g W w' from by
        have q := oct_RBlock h HXB.out
        rw [bx_4 HLN.out h0, ← hpe] at q
        refine q.mono ?_
        rintro e w' ⟨v, h1, h2, h3, h4⟩
        obtain ⟨A, c, rfl, -, -, h5, h6⟩ := Own.form h2
        exact ⟨A, c, h1, h5, fun ad ha => by have := h6 ad ha; have := h.lt; omega, h3, h4⟩)
      have HC5 := Lib.hid (fun (W : World) (h : Rdr W w5.heap.size g (bx n m xs zs) pe 0) => show Calls Try.prog 43 #[.pointer (some ⟨g, 0, none⟩)] W fun e w' => e = .returned (.int .i64 (zs.length : Int)) ∧ Rdr w' w5.heap.size g (bx n m xs zs) pe 0 ∧ TB g W w' from by
        refine (oct_Left h HXB.out).mono ?_
        rintro e w' ⟨h1, h2⟩
        rw [hpe, HPL.out] at h1
        exact ⟨h1, h.fb h2, TB.of h2⟩)
      clear hpe
      have hm16 : (nb m).tmod 65536 = nb m % 65536 := Int.tmod_eq_emod_of_nonneg (nb_nonneg m)
      have hm32 : (nb m).tmod 4294967296 = nb m % 4294967296 := Int.tmod_eq_emod_of_nonneg (nb_nonneg m)
      go_wp2_with fail
      obtain ⟨W1, hW1⟩ : ∃ W1 : World, W1 = w6 := ⟨_, rfl⟩
      subst hW1
      refine region_sch (E := TB (g)) (((0, true) :: (2, true) :: (1, false) :: (3, true) :: (4, true) :: (5, true) :: (7, true) :: (8, true) :: (6, false) :: (9, true) :: (10, true) :: (11, true) :: (12, true) :: (14, true) :: (15, true) :: (13, false) :: (16, true) :: (17, true) :: (18, true) :: (19, true) :: (21, true) :: (20, false) :: (22, true) :: (23, true) :: (24, true) :: (25, true) :: (28, true) :: (29, true) :: (26, false) :: (27, true) :: (30, true) :: (31, true) :: (32, true) :: (33, true) :: (35, true) :: (36, true) :: (34, false) :: (37, true) :: (38, true) :: (39, true) :: (40, true) :: (41, false) :: (42, true) :: (43, true) :: [])) (by kernel_rfl) (TB.refl _) (fun _ _ _ h k => TB.trans h k) (fun _ _ d _ _ h => by cases d <;> exact h) (by kernel_rfl) ?_
      intro ops hops0
      have hops := Lib.hid hops0
      clear hops0
      have HF : TB (g) W1 W1.drew := TB.of (FB.refl _).drew
      have HD : FB W1 W1.drew := (FB.refl _).drew
      generalize W1.drew = wF1 at *
      have HK0 := Lib.hid (show Rdr wF1 w5.heap.size g (bx n m xs zs) 0 0 from HK6.out.fb HD)
      repeat (refine sch_take (o := ?_) (v := ?_) (a' := ?_) (at_of hops.out ?_) ?_ (fun W hW => ?_) ?_ ?_; rotate_left 3; (focus (simp only [List.getElem?_toArray, List.getElem?_cons_zero, List.getElem?_cons_succ]; rfl)); (focus (rw [hops.out]; rfl)); (focus (go_simp; with_reducible rfl)); (focus (simp only [Act.put, List.setIfInBounds_toArray, List.set_cons_zero, List.set_cons_succ]; rfl)))
      (refine sch_call (o := ?_) (f := ?_) (args := ?_) (at_of hops.out ?_) ?_ ?_ ?_; rotate_left 3; (focus (simp only [List.getElem?_toArray, List.getElem?_cons_zero, List.getElem?_cons_succ]; rfl)); (focus (rw [hops.out]; rfl)); (focus (go_simp; constructor <;> with_reducible rfl)); (first | ((with_reducible refine (HC0.out _ HK0.out).mono ?_); rintro e w' ⟨rfl, hr, hb⟩; have HK1 := Lib.hid hr; clear hr; refine ⟨_, rfl, hb, ?_⟩; intro a' ha'; simp only [Act.put, List.setIfInBounds_toArray, List.set_cons_zero, List.set_cons_succ] at ha'; subst ha'; replace HF := HF.trans hb; clear hb)))
      repeat (refine sch_take (o := ?_) (v := ?_) (a' := ?_) (at_of hops.out ?_) ?_ (fun W hW => ?_) ?_ ?_; rotate_left 3; (focus (simp only [List.getElem?_toArray, List.getElem?_cons_zero, List.getElem?_cons_succ]; rfl)); (focus (rw [hops.out]; rfl)); (focus (go_simp; with_reducible rfl)); (focus (simp only [Act.put, List.setIfInBounds_toArray, List.set_cons_zero, List.set_cons_succ]; rfl)))
      (refine sch_call (o := ?_) (f := ?_) (args := ?_) (at_of hops.out ?_) ?_ ?_ ?_; rotate_left 3; (focus (simp only [List.getElem?_toArray, List.getElem?_cons_zero, List.getElem?_cons_succ]; rfl)); (focus (rw [hops.out]; rfl)); (focus (go_simp; constructor <;> with_reducible rfl)); (first | ((with_reducible refine (HC1.out _ HK1.out).mono ?_); rintro e w' ⟨rfl, hr, hb⟩; have HK2 := Lib.hid hr; clear hr; refine ⟨_, rfl, hb, ?_⟩; intro a' ha'; simp only [Act.put, List.setIfInBounds_toArray, List.set_cons_zero, List.set_cons_succ] at ha'; subst ha'; replace HF := HF.trans hb; clear hb)))
      repeat (refine sch_take (o := ?_) (v := ?_) (a' := ?_) (at_of hops.out ?_) ?_ (fun W hW => ?_) ?_ ?_; rotate_left 3; (focus (simp only [List.getElem?_toArray, List.getElem?_cons_zero, List.getElem?_cons_succ]; rfl)); (focus (rw [hops.out]; rfl)); (focus (go_simp; with_reducible rfl)); (focus (simp only [Act.put, List.setIfInBounds_toArray, List.set_cons_zero, List.set_cons_succ]; rfl)))
      (refine sch_call (o := ?_) (f := ?_) (args := ?_) (at_of hops.out ?_) ?_ ?_ ?_; rotate_left 3; (focus (simp only [List.getElem?_toArray, List.getElem?_cons_zero, List.getElem?_cons_succ]; rfl)); (focus (rw [hops.out]; rfl)); (focus (go_simp; constructor <;> with_reducible rfl)); (first | ((with_reducible refine (HC2.out _ HK2.out).mono ?_); rintro e w' ⟨rfl, hr, hb⟩; have HK3 := Lib.hid hr; clear hr; refine ⟨_, rfl, hb, ?_⟩; intro a' ha'; simp only [Act.put, List.setIfInBounds_toArray, List.set_cons_zero, List.set_cons_succ] at ha'; subst ha'; replace HF := HF.trans hb; clear hb)))
      repeat (refine sch_take (o := ?_) (v := ?_) (a' := ?_) (at_of hops.out ?_) ?_ (fun W hW => ?_) ?_ ?_; rotate_left 3; (focus (simp only [List.getElem?_toArray, List.getElem?_cons_zero, List.getElem?_cons_succ]; rfl)); (focus (rw [hops.out]; rfl)); (focus (go_simp; with_reducible rfl)); (focus (simp only [Act.put, List.setIfInBounds_toArray, List.set_cons_zero, List.set_cons_succ]; rfl)))
      (refine sch_call (o := ?_) (f := ?_) (args := ?_) (at_of hops.out ?_) ?_ ?_ ?_; rotate_left 3; (focus (simp only [List.getElem?_toArray, List.getElem?_cons_zero, List.getElem?_cons_succ]; rfl)); (focus (rw [hops.out]; rfl)); (focus (go_simp; constructor <;> with_reducible rfl)); (first | ((with_reducible refine (HC3.out _ HK3.out).mono ?_); rintro e w' ⟨rfl, hr, hb⟩; have HK4 := Lib.hid hr; clear hr; refine ⟨_, rfl, hb, ?_⟩; intro a' ha'; simp only [Act.put, List.setIfInBounds_toArray, List.set_cons_zero, List.set_cons_succ] at ha'; subst ha'; replace HF := HF.trans hb; clear hb)))
      repeat (refine sch_take (o := ?_) (v := ?_) (a' := ?_) (at_of hops.out ?_) ?_ (fun W hW => ?_) ?_ ?_; rotate_left 3; (focus (simp only [List.getElem?_toArray, List.getElem?_cons_zero, List.getElem?_cons_succ]; rfl)); (focus (rw [hops.out]; rfl)); (focus (have q1 := run_string c0 ((HB6.out.tb (HF.trans hW) HG.out).rd HR0.out); go_simp; with_reducible rfl)); (focus (simp only [Act.put, List.setIfInBounds_toArray, List.set_cons_zero, List.set_cons_succ]; rfl)))
      (refine sch_call (o := ?_) (f := ?_) (args := ?_) (at_of hops.out ?_) ?_ ?_ ?_; rotate_left 3; (focus (simp only [List.getElem?_toArray, List.getElem?_cons_zero, List.getElem?_cons_succ]; rfl)); (focus (rw [hops.out]; rfl)); (focus (go_simp; constructor <;> with_reducible rfl)); (first | ((with_reducible refine (HC4.out _ HK4.out).mono ?_); rintro e w' ⟨A7, c7, rfl, hrd, hne, hr, hb⟩; have HK5 := Lib.hid hr; have HRD := Lib.hid hrd; have HNE := Lib.hid hne; clear hr hrd hne; refine ⟨_, rfl, hb, ?_⟩; intro a' ha'; simp only [Act.put, List.setIfInBounds_toArray, List.set_cons_zero, List.set_cons_succ] at ha'; subst ha'; replace HF := HF.trans hb; clear hb)))
      repeat (refine sch_take (o := ?_) (v := ?_) (a' := ?_) (at_of hops.out ?_) ?_ (fun W hW => ?_) ?_ ?_; rotate_left 3; (focus (simp only [List.getElem?_toArray, List.getElem?_cons_zero, List.getElem?_cons_succ]; rfl)); (focus (rw [hops.out]; rfl)); (focus (have q1 := run_string c0 ((HB6.out.tb (HF.trans hW) HG.out).rd HR0.out); have q2 := run_string c7 (TB.rd hW HRD.out HNE.out); go_simp; with_reducible rfl)); (focus (simp only [Act.put, List.setIfInBounds_toArray, List.set_cons_zero, List.set_cons_succ]; rfl)))
      (refine sch_call (o := ?_) (f := ?_) (args := ?_) (at_of hops.out ?_) ?_ ?_ ?_; rotate_left 3; (focus (simp only [List.getElem?_toArray, List.getElem?_cons_zero, List.getElem?_cons_succ]; rfl)); (focus (rw [hops.out]; rfl)); (focus (go_simp; constructor <;> with_reducible rfl)); (first | ((with_reducible refine (HC5.out _ HK5.out).mono ?_); rintro e w' ⟨rfl, hr, hb⟩; have HK6 := Lib.hid hr; clear hr; refine ⟨_, rfl, hb, ?_⟩; intro a' ha'; simp only [Act.put, List.setIfInBounds_toArray, List.set_cons_zero, List.set_cons_succ] at ha'; subst ha'; replace HF := HF.trans hb; clear hb)))
      repeat (refine sch_take (o := ?_) (v := ?_) (a' := ?_) (at_of hops.out ?_) ?_ (fun W hW => ?_) ?_ ?_; rotate_left 3; (focus (simp only [List.getElem?_toArray, List.getElem?_cons_zero, List.getElem?_cons_succ]; rfl)); (focus (rw [hops.out]; rfl)); (focus (go_simp; with_reducible rfl)); (focus (simp only [Act.put, List.setIfInBounds_toArray, List.set_cons_zero, List.set_cons_succ]; rfl)))
      (refine sch_call (o := ?_) (f := ?_) (args := ?_) (at_of hops.out ?_) ?_ ?_ ?_; rotate_left 3; (focus (simp only [List.getElem?_toArray, List.getElem?_cons_zero, List.getElem?_cons_succ]; rfl)); (focus (rw [hops.out]; rfl)); (focus (go_simp; constructor <;> with_reducible rfl)); (first | ((with_reducible refine (oct_Err HK6.out).mono ?_); rintro e w' ⟨rfl, rfl⟩; refine ⟨_, rfl, TB.refl _ _, ?_⟩; intro a' ha'; simp only [Act.put, List.setIfInBounds_toArray, List.set_cons_zero, List.set_cons_succ] at ha'; subst ha')))
      repeat (refine sch_take (o := ?_) (v := ?_) (a' := ?_) (at_of hops.out ?_) ?_ (fun W hW => ?_) ?_ ?_; rotate_left 3; (focus (simp only [List.getElem?_toArray, List.getElem?_cons_zero, List.getElem?_cons_succ]; rfl)); (focus (rw [hops.out]; rfl)); (focus (go_simp; with_reducible rfl)); (focus (simp only [Act.put, List.setIfInBounds_toArray, List.set_cons_zero, List.set_cons_succ]; rfl)))
      refine sch_done ?_
      have HB7 := Lib.hid (HB6.out.tb HF HG.out)
      clear hops HF HK0 HK1 HK2 HK3 HK4 HK5 HK6 HRD HNE HC0 HC1 HC2 HC3 HC4 HC5 HD HPL HXB HBL HXL hm16 hm32
      go_wp2_with fail
      refine (num_nilN n (lc + 1) HLN.out _).mono ?_
      rintro e w8 ⟨A8, c8, rfl, k8c, k8m, k8r, hf⟩
      have HB8 := Lib.hid (HB7.out.trans hf)
      have HR8 := Lib.hid k8r
      clear hf k8r
      go_wp2_with fail
      refine (num_nilN m lm HLM.out _).mono ?_
      rintro e w9 ⟨A9, c9, rfl, k9c, k9m, k9r, hf⟩
      have HB9 := Lib.hid (HB8.out.trans hf)
      have HR9 := Lib.hid k9r
      have HR89 := Lib.hid (hf.rd HR8.out)
      clear hf k9r HR8
      have hmax : ∀ (ts : Array TypeId) (t : TypeId) (W : World), (Builtin.max_ ts t #[.int .i64 0, .int .i64 (lc : Int)]).run Try.prog W = .ok (.int .i64 (lc : Int)) W := fun ts t W => by
        rw [run_max_int2]; congr 2; split <;> omega
      have hcut := cut_hi A8 c8 (onum n) lc (by rw [← HLN.out]; omega) (by rw [← HLN.out]; exact k8c)
      rw [← HLN.out] at hcut
      have hty : (onum n).take lc = ys := by rw [HYS.out, List.take_left' HLC.out.symm]
      have HTY := Lib.hid hty
      clear hty
      go_wp2_with fail
      refine (oct_New ys A8 lc c8 _ HLC.out (by rw [← HLC.out]; omega) (by have q := HR89.out.take lc; rw [HTY.out] at q; exact q)).mono ?_
      rintro e wa ⟨g1, rfl, hr, hb⟩
      have HK1 := Lib.hid hr
      have HBa := Lib.hid (HB9.out.call hb)
      have HG1 := Lib.hid (show w.heap.size ≤ g1 from Nat.le_trans HB9.out.le hr.bg)
      have HFa := Lib.hid (show FB w9 wa from hb)
      have HGK := Lib.hid hr.bg
      have HR1a := Lib.hid (HFa.out.rd HR89.out)
      have HR2a := Lib.hid (HFa.out.rd HR9.out)
      clear hr hb hcut hmax
      go_wp2_with (at_builtin; refine wpList_append_bytes rfl _ _ rfl wa.heap.size _ [] (OwnV.lit _ wa [] (by simp)) rfl A8 c8 (onum n) (by rw [← HLN.out]; rfl) (HR1a.out.alloc _) (by have := HLN.out; simp; omega) (by simp) ?_; intro v' wb ho hg _; have HO0 := Lib.hid ho; have HG0 := Lib.hid hg; clear ho hg)
      rw [List.nil_append] at HO0
      obtain ⟨ga, ca, hva⟩ : ∃ g c, v' = .slice (some ⟨g, 0, none⟩) (lc + 1) c := by
        obtain ⟨A, c, h1, -, -, -, -⟩ := Own.form HO0.out
        subst h1
        rw [← HLN.out] at HO0 ⊢
        obtain ⟨g, rfl, -, -⟩ := Own.head' HO0.out (by omega)
        exact ⟨g, c, rfl⟩
      subst hva
      have HFb := Lib.hid (((FB.refl wa).alloc _).grown HG0.out (fun k hk => by
        cases hk
        exact Nat.le_refl _))
      have HBb := Lib.hid (HBa.out.trans HFb.out)
      have HK1b := Lib.hid (HK1.out.fb HFb.out)
      have HR2b := Lib.hid (HFb.out.rd HR2a.out)
      have HR1b := Lib.hid (HFb.out.rd HR1a.out)
      have hcu := onum_cut n ys y HYS.out
      have HCU := Lib.hid hcu
      have HGA := Lib.hid (show wa.heap.size ≤ ga from Own.bnd HO0.out ga rfl)
      have HL1 := Lib.hid (show g1 < wa.heap.size from HK1.out.lt)
      have HWB := Lib.hid (show wa.heap.size ≤ wb.heap.size from HFb.out.le)
      clear hcu HG0
      have HNU := Lib.hid (show Calls Try.prog 40 #[.pointer (some ⟨g1, 0, none⟩)] wb fun e w' => e = .returned (.int .u64 0) ∧ Rdr w' w9.heap.size g1 ys 0 5 ∧ TB g1 wb w' from by
        have q := oct_RNumber HK1b.out (by rw [← HLC.out]; omega)
        rw [List.drop_zero, HCU.out.1] at q; exact q)
      refine HNU.out.mono ?_
      rintro e wc ⟨rfl, hr, ht⟩
      have HBc := Lib.hid (HBb.out.tb ht HG1.out)
      have HK1c := Lib.hid hr
      have HF9c := Lib.hid ((HFa.out.trans HFb.out).tb ht HGK.out)
      have hoc := TB.own ht HO0.out HL1.out
      rw [HYS.out] at hoc
      have HOc := Lib.hid hoc
      have HT2 := Lib.hid ht
      have HWC := Lib.hid (show wa.heap.size ≤ wc.heap.size from Nat.le_trans HWB.out ht.le)
      clear hr ht hoc HNU HK1b HK1
      obtain ⟨hq, hfz, hst⟩ := Own.cellset' HOc.out (j := lc) (by rw [List.length_append, ← HLC.out]; simp)
      rw [List.getElem_append_right (by rw [← HLC.out]; exact Nat.le_refl _)] at hq
      have hq2 : wc.cell? ⟨ga, lc, none⟩ = some (.int .u8 (nb y)) := by rw [hq]; simp [HLC.out, vb]
      have hor := bits_or8l y 128 (by omega)
      have hst2 := hst (y ||| 128#8)
      rw [show (ys ++ [y]).set lc (y ||| 128#8) = ys ++ [y ||| 128#8] from by rw [HLC.out]; simp] at hst2
      have HST := Lib.hid hst2
      clear hq hst hst2
      unfold vb at HST
      go_wp2_with (at_builtin; refine wpList_append_bytes rfl _ _ rfl wa.heap.size (.slice (some ⟨ga, 0, none⟩) (lc + 1) ca) (ys ++ [y ||| 128#8]) (HST.out.alloc _) rfl (some ⟨wc.heap.size, 0, none⟩) 1 [0#8] rfl (RdV.lit (g := wc.heap.size) _ (vbs [0#8]) _ (by simp)) (by rw [List.length_append, ← HLC.out]; simp; omega) (by have := HF9c.out.le; have h2 := HWC.out; simp; omega) ?_; intro v' wd ho hg _; have HOd := Lib.hid ho; have HGd := Lib.hid hg; clear ho hg)
      have h9a := HFa.out.le
      have hga := HGA.out
      have hg1 := HL1.out
      have HF9d := Lib.hid (((HF9c.out.set (p := ⟨ga, lc, none⟩) (by show w9.heap.size ≤ ga; omega) (.int .u8 (nb (y ||| 128#8)))).alloc (.cells #[.int .u8 0] 5)).grown HGd.out (fun k hk => by cases hk; show w9.heap.size ≤ ga; omega))
      have HK1d := Lib.hid (((HK1c.out.tb (TB.set (g := ga) wc lc (.int .u8 (nb (y ||| 128#8)))) (.inr (by omega))).fb ((FB.refl _).alloc (.cells #[.int .u8 0] 5))).tb (g' := ga) HGd.out (.inr (by omega)))
      have HBd := Lib.hid (HB9.out.trans HF9d.out)
      have HRd1 := Lib.hid (HF9d.out.rd HR89.out)
      have HRd2 := Lib.hid (HF9d.out.rd HR9.out)
      obtain ⟨Ad, cd, hvd, -, -, kdr, -⟩ := Own.form HOd.out
      subst hvd
      have HRd := Lib.hid kdr
      have hl2 : ((ys ++ [y ||| 128#8]) ++ [0#8]).length = lc + 1 + 1 := by rw [List.length_append, List.length_append, ← HLC.out]; rfl
      have HL2 := Lib.hid hl2
      rw [hl2]
      clear kdr hq2 hfz hor HST HOc HOd HGd HF9c HK1c hl2 h9a hga hg1
      refine (oct_New ((ys ++ [y ||| 128#8]) ++ [0#8]) Ad _ cd _ HL2.out.symm (by rw [HL2.out]; omega) HRd.out).mono ?_
      rintro e we ⟨g2, rfl, hr, hb⟩
      have HFe := Lib.hid (show FB wd we from hb)
      have HBe := Lib.hid (HBd.out.trans HFe.out)
      have HG2 := Lib.hid (show w.heap.size ≤ g2 from Nat.le_trans HBd.out.le hr.bg)
      have HG29 := Lib.hid (show w9.heap.size ≤ g2 from Nat.le_trans HF9d.out.le hr.bg)
      have HG12 := Lib.hid (show g1 < g2 from Nat.lt_of_lt_of_le HK1d.out.lt hr.bg)
      have HK2e := Lib.hid hr
      have HK1e := Lib.hid (HK1d.out.fb HFe.out)
      have HF9e := Lib.hid (HF9d.out.trans HFe.out)
      clear hr hb
      have HNU := Lib.hid (show Calls Try.prog 40 #[.pointer (some ⟨g2, 0, none⟩)] we fun e w' => e = .returned (.int .u64 0) ∧ Rdr w' wd.heap.size g2 ((ys ++ [y ||| 128#8]) ++ [0#8]) 0 4 ∧ TB g2 we w' from by
        have q := oct_RNumber HK2e.out (by rw [HL2.out]; omega)
        rw [List.drop_zero, List.append_assoc, List.singleton_append, HCU.out.2] at q
        rw [List.append_assoc, List.singleton_append]; exact q)
      go_wp2_with fail
      refine HNU.out.mono ?_
      rintro e wf ⟨rfl, hr, ht⟩
      have HBf := Lib.hid (HBe.out.tb ht HG2.out)
      have HK2f := Lib.hid hr
      have HK1f := Lib.hid (HK1e.out.tb ht (.inr HG12.out))
      have HF9f := Lib.hid (HF9e.out.tb ht HG29.out)
      clear hr ht
      have hs1 : (convert 23 9 (.slice A8 (lc + 1) c8)).run Try.prog wf = .ok (.string (sb (onum n))) wf := by
        have q := run_string c8 (HF9f.out.rd HR89.out)
        rw [← HLN.out] at q; exact q
      have hs2 : (convert 23 9 (.slice A9 lm c9)).run Try.prog wf = .ok (.string (sb (onum m))) wf := by
        have q := run_string c9 (HF9f.out.rd HR9.out)
        rw [← HLM.out] at q; exact q
      have hss : ((sb (onum n)).toList == (sb (onum m)).toList) = (nb n == nb m) := by
        rw [sb_beq, Bool.eq_iff_iff, beq_iff_eq, beq_iff_eq]
        refine ⟨fun h => by rw [onum_inj h], fun h => ?_⟩
        have : n = m := BitVec.eq_of_toNat_eq (by unfold nb at h; omega)
        rw [this]
      go_wp2_with fail
      refine (oct_Size n _).mono ?_
      rintro e wg ⟨rfl, hb⟩
      rw [← HLN.out]
      have HBg := Lib.hid (HBf.out.call hb)
      have HK2g := Lib.hid (HK2f.out.fb (show FB wf wg from hb))
      have HK1g := Lib.hid (HK1f.out.fb (show FB wf wg from hb))
      clear hb hs1 hs2
      go_wp2_with fail
      refine (oct_Err HK1g.out).mono ?_
      rintro e wh ⟨rfl, rfl⟩
      go_wp2_with fail
      refine (oct_Err HK2g.out).mono ?_
      rintro e wh ⟨rfl, rfl⟩
      go_wp2
      go_ret
      exact ⟨rfl, HBg.out⟩
set_option maxRecDepth 100000 in
set_option maxHeartbeats 400000 in
theorem octetBack_much (n m : BitVec 64) (A0 : Option Addr) (c0 : Nat) (xs : List Byte) (A1 : Option Addr) (c1 : Nat) (zs : List Byte) (w : World) (h : 3000 < xs.length ∨ (xs.length ≤ 3000 ∧ 3000 < zs.length)) :
    Calls Try.prog 10 #[.int .u64 (nb n), .int .u64 (nb m), .slice A0 xs.length c0, .slice A1 zs.length c1] w fun e w' => e = .returned (.bool true) ∧ Below w.heap.size w w' := by
  rcases h with h | ⟨h, h'⟩
  all_goals
    go_enter Try.func10, Try.ntmps10
    go_wp2_with fail
    refine (oct_lives _).mono ?_
    rintro e w1 ⟨rfl, hb⟩
    have HBW := Lib.hid ((FB.refl w).call hb)
    clear hb
    go_wp2
    go_ret
    exact ⟨rfl, HBW.out⟩
theorem octetBack_walk (n m : BitVec 64) (A0 : Option Addr) (c0 : Nat) (xs : List Byte) (A1 : Option Addr) (c1 : Nat) (zs : List Byte) (w : World) (hc0 : xs.length ≤ c0) (hm0 : c0 ≤ maxLen) (hr0 : Rd w A0 xs) (hc1 : zs.length ≤ c1) (hm1 : c1 ≤ maxLen) (hr1 : Rd w A1 zs) :
    Calls Try.prog 10 #[.int .u64 (nb n), .int .u64 (nb m), .slice A0 xs.length c0, .slice A1 zs.length c1] w fun e w' => e = .returned (.bool true) ∧ Below w.heap.size w w' := by
  by_cases h : xs.length ≤ 3000 ∧ zs.length ≤ 3000
  · exact octetBack_few n m A0 c0 xs A1 c1 zs w h.1 h.2 hr0 hr1
  · exact octetBack_much n m A0 c0 xs A1 c1 zs w (by omega)
end Go.Proofs.Ytegmpejcolmnoaa
