/- The walks through Word, Block, Size, of octet and of the document's answer. -/
import Derived.Test.YtihljjfnjclefaaDoorOctB
set_option linter.unusedVariables false
set_option linter.unusedSimpArgs false
namespace Go.Proofs.YtihljjfnjclefaaDoor
open Go.ChangeShapes Go.WideShapes Go.ChangeAt Go.RowKit
attribute [local go_sem] nb_mod8 bits_or8l nb_shr_7 nb_shr_8 nb_nonneg nb_lt64

theorem owordZ_none {z : Int} (m : BitVec 64) (h : ¬ (z = 2 ∨ z = 4 ∨ z = 8)) : owordZ z m = [] := by
  unfold owordZ; rw [if_neg (by omega), if_neg (by omega), if_neg (by omega)]
theorem owordZ_len (z : Int) (m : BitVec 64) : (owordZ z m).length ≤ 8 := by
  unfold owordZ
  split
  · rw [oword_len]; omega
  · split
    · rw [oword_len]; omega
    · split
      · rw [oword_len]; omega
      · simp
set_option maxRecDepth 100000 in
set_option maxHeartbeats 400000 in
theorem ref_WordZ (xs : List Byte) (A : Option Addr) (n c : Nat) (m : BitVec 64) (z : Int) (w : World) (hn : n = xs.length) (hm : xs.length ≤ 100000000000000) (hr : Rd w A xs) :
    Calls Tryd.prog 45 #[.slice A n c, .int .u64 (nb m), .int .i64 z] w fun e w' => ∃ v, e = .returned v ∧ Own w' w.heap.size v (xs ++ owordZ z m) ∧ Below w.heap.size w w' := by
  by_cases hz : z = 2 ∨ z = 4 ∨ z = 8
  · exact ref_Word xs A n c m z w hn hm hr hz
  subst hn
  have HR := Lib.hid hr
  have HN := Lib.hid (owordZ_none m hz)
  have h1 : (z != 2) = true := by simp; omega
  have h2 : (z != 4) = true := by simp; omega
  have h3 : (z != 8) = true := by simp; omega
  clear hr hz
  go_enter Tryd.func45, Tryd.ntmps45
  go_wp2_with (at_builtin; refine wpList_append_bytes rfl _ _ rfl w.heap.size _ [] (OwnV.lit _ w [] (by simp)) rfl A c xs rfl (HR.out.alloc _) (by simp; omega) (by simp) ?_; intro v' w1 ho hg _; have HO0 := Lib.hid ho; have HG0 := Lib.hid hg; clear ho hg)
  go_ret
  refine ⟨_, rfl, ?_, ((FB.refl w).alloc _).grown HG0.out (by simp [Value.ownBlock])⟩
  rw [HN.out, List.append_nil]
  exact HO0.out

set_option maxRecDepth 100000 in
set_option maxHeartbeats 400000 in
theorem oct_Word (xs : List Byte) (A : Option Addr) (n c : Nat) (m : BitVec 64) (z : Int) (w : World) (hn : n = xs.length) (hc : xs.length ≤ c) (hcm : c ≤ maxLen) (hm : xs.length ≤ 100000000000000) (hr : Rd w A xs) :
    Calls Tryd.prog 37 #[.slice A n c, .int .u64 (nb m), .int .i64 z] w fun e w' => ∃ v, e = .returned v ∧ Own w' w.heap.size v (xs ++ owordZ z m) ∧ Below w.heap.size w w' := by
  subst hn
  have HR := Lib.hid hr
  clear hr
  by_cases hz : z = 2 ∨ z = 4 ∨ z = 8
  · obtain ⟨q, rfl, hq, hqq⟩ : ∃ q : Nat, z = q ∧ owordZ z m = oword q m ∧ (q = 2 ∨ q = 4 ∨ q = 8) := by
      rcases hz with rfl | rfl | rfl
      · exact ⟨2, rfl, by simp [owordZ], by omega⟩
      · exact ⟨4, rfl, by simp [owordZ], by omega⟩
      · exact ⟨8, rfl, by simp [owordZ], by omega⟩
    rw [hq]
    have hq8 : q ≤ 8 := by omega
    have hb : (((q : Int) == 2) = true ∨ (((q : Int) == 2) = false ∧ ((q : Int) == 4) = true) ∨ (((q : Int) == 2) = false ∧ ((q : Int) == 4) = false ∧ ((q : Int) == 8) = true)) := by
      rcases hqq with rfl | rfl | rfl <;> simp
    clear hq hz hqq
    rcases hb with h1 | ⟨h1, h2⟩ | ⟨h1, h2, h3⟩
    all_goals
      go_enter Tryd.func37, Tryd.ntmps37
      go_wp2
      go_loopw [7, 1, 16] (fun v s i wr => ∃ k : Nat, k ≤ q ∧ i = .int .i64 k ∧ s = .int .u64 (nb (m >>> (8 * k))) ∧ Hid (Own wr w.heap.size v (oword k m)) ∧ Hid (FB w wr)) (fun _ _ i _ => q - (intOf i).toNat)
      case atStart => exact ⟨0, by omega, rfl, by simp, Own.nil _ _, FB.refl _⟩
      case round =>
        obtain ⟨k, hk, rfl, rfl, HO, HF⟩ := hrel
        by_cases hlt : k < q
        · have HS := Lib.hid (oword_succ k m)
          have hl := oword_len k m
          have HL := Lib.hid hl
          have HSH := Lib.hid (show m >>> (8 * (k + 1)) = m >>> (8 * k) >>> 8 by rw [show 8 * (k + 1) = 8 * k + 8 by omega, BitVec.shiftRight_add])
          clear hl
          generalize m >>> (8 * k) = mk at *
          go_wp2_with (at_builtin; refine wpList_append_bytes rfl _ _ rfl w.heap.size _ (oword k m) (HO.out.alloc _) rfl (some ⟨wr.heap.size, 0, none⟩) 1 [mk.setWidth 8] rfl (RdV.lit wr (vbs [mk.setWidth 8]) _) (by simp [HL.out]; omega) (Nat.le_trans HF.out.le (by simp)) ?_; intro v' w2 ho hg _; have HO2 := Lib.hid ho; have HG := Lib.hid hg; clear ho hg)
          go_roundw
          case rel => exact ⟨k + 1, by omega, by go_num, by rw [HSH.out], by rw [HS.out]; exact HO2.out, (HF.out.alloc _).grown HG.out (Own.bnd HO.out)⟩
          case measure => simp [intOf]; omega
        · obtain rfl : k = q := by omega
          obtain ⟨Aw, cw, rfl, hw1, hw2, hw3, -⟩ := Own.form HO.out
          have HL := Lib.hid (oword_len k m)
          have HF1 := Lib.hid (HF.out.rd HR.out)
          have hlist : RdL (wr.alloc (.cells #[.slice A xs.length c, .slice Aw (oword k m).length cw] 23)) (some ⟨wr.heap.size, 0, none⟩) [xs, oword k m] := by
            refine RdL.lit (vs := [.slice A xs.length c, .slice Aw (oword k m).length cw]) rfl (fun i hi => ?_)
            have hi2 : i = 0 ∨ i = 1 := by simp at hi; omega
            rcases hi2 with rfl | rfl
            · exact ⟨A, c, rfl, hc, hcm, HF1.out⟩
            · exact ⟨Aw, cw, rfl, hw1, hw2, hw3⟩
          have HLIST := Lib.hid hlist
          clear hw1 hw2 hw3 hlist
          go_wp2_with fail
          refine (sl_Concat [xs, oword k m] (some ⟨wr.heap.size, 0, none⟩) 2 2 _ rfl (by simp) (by simp [maxLen]) HLIST.out (by simp [HL.out]; omega)).mono ?_
          rintro e w2 ⟨v2, rfl, ho, hb⟩
          have HO2 := Lib.hid (Own.lower ho (Nat.le_trans HF.out.le (by simp)))
          have HF2 := Lib.hid ((HF.out.alloc _).call hb)
          clear ho hb
          go_wp2
          go_ret
          refine ⟨_, rfl, ?_, HF2.out⟩
          have ho := HO2.out
          simp only [List.flatten_cons, List.flatten_nil, List.append_nil] at ho
          exact ho
  · have HN := Lib.hid (owordZ_none m hz)
    have h1 : (z == 2) = false := by simp; omega
    have h2 : (z == 4) = false := by simp; omega
    have h3 : (z == 8) = false := by simp; omega
    clear hz
    go_enter Tryd.func37, Tryd.ntmps37
    go_wp2_with fail
    refine (sl_Clone xs A _ c _ rfl (by omega) HR.out).mono ?_
    rintro e w1 ⟨A', c', rfl, ho, hb⟩
    have HO0 := Lib.hid ho
    have HB0 := Lib.hid hb
    clear ho hb
    go_wp2
    go_ret
    refine ⟨_, rfl, ?_, HB0.out⟩
    rw [HN.out, List.append_nil]
    exact HO0.out

/-! ### Block, Size -/
end Go.Proofs.YtihljjfnjclefaaDoor
