/- Walks and laws that the claim's last text stands on, several texts in one file: RtS, PgE, PgL, Rr, CrcR, RgA, RgB, RtE, RtF. Under the hypotheses that each theorem states. -/
import Derived.Test.YtihljjfnjclefaaMRta
import Derived.Test.YtihljjfnjclefaaMRtb
import Derived.Test.YtihljjfnjclefaaMRtc
import Derived.Test.YtihljjfnjclefaaMRtd
import Derived.Test.YtihljjfnjclefaaMRte
import Derived.Test.YtihljjfnjclefaaMRtf
import Derived.Test.YtihljjfnjclefaaMRtg
import Derived.Test.YtihljjfnjclefaaMRth
import Derived.Test.YtihljjfnjclefaaMRti
import Derived.Test.YtihljjfnjclefaaMRtj
import Derived.Test.YtihljjfnjclefaaMRtk
import Derived.Test.YtihljjfnjclefaaMRtl
/- root, plain: what is found while the next root is written over the older one. -/
set_option linter.unusedVariables false
set_option linter.unusedSimpArgs false
namespace Go.Proofs.Ytihljjfnjclefaa
open Go.ChangeShapes Go.WideShapes Go.ChangeAt Go.RowKit
set_option maxRecDepth 100000

theorem rtW_good {D : DiskSt} {n : Nat} {r : Rt} (hf : D.fuse = none) (ho : rtOk r = true) (hp : r.P.toNat = n / 8) :
    ∃ M, rtW D n r = (0, ⟨D.b, M, none⟩) ∧ pgAt ⟨D.b, M, none⟩ (rtSlot r) = (rtB r).1 ∧ (∀ k', k' ≠ rtSlot r → pgAt ⟨D.b, M, none⟩ k' = pgAt D k') ∧ (D.M = [] → M = pageM (rtSlot r) (rtB r).1 8 0) := by
  rw [rtW_ok ho hp]
  have h8 := (rtOk_iff.1 ho).2.1
  obtain ⟨M, h1, h2, h3, h4⟩ := sdSave_pg (D := D) (n := n) (k := rtSlot r) (xs := (rtB r).1) hf (by have := rtSlot_lt r; omega) (rtB_page ho).1
  exact ⟨M, h1, h2, h3, fun he => by have := h4 (fun j _ => by rw [he]; rfl); rw [he] at this; exact this⟩
theorem fdV_root {r : Rt} {n : Nat} (ho : rtOk r = true) (hp : r.P.toNat = n / 8) : fdV (rtB r).1 (rtSlot r) n r := ⟨(rtB_page ho).2, rfl, hp⟩
/-- Two pages, in order. -/
def pick2 (k : Nat) (u v : List Byte) : List Byte := if k = 0 then u else v
theorem fdPick_safe {D : DiskSt} {n : Nat} {b : Rt} (hb : fdV (pgAt D (rtSlot b)) (rtSlot b) n b) :
    ∃ x, fdPick (pgAt D 0) (pgAt D 1) n = (x, 0) ∧ (x = b ∨ rtR (pgAt D (1 - rtSlot b)) = (x, 0)) := by
  have hs := rtSlot_lt b
  rcases (show rtSlot b = 0 ∨ rtSlot b = 1 by omega) with e | e
  · rw [e] at hb ⊢
    cases h1 : fdS (rtR (pgAt D 1)) 1 n with
    | false => exact ⟨b, fdPick_0 hb h1, .inl rfl⟩
    | true =>
      have hv := fdV.of h1
      refine ⟨_, fdPick_both hb hv, ?_⟩
      split
      · exact .inl rfl
      · exact .inr hv.1
  · rw [e] at hb ⊢
    cases h0 : fdS (rtR (pgAt D 0)) 0 n with
    | false => exact ⟨b, fdPick_1 h0 hb, .inl rfl⟩
    | true =>
      have hv := fdV.of h0
      refine ⟨_, fdPick_both hv hb, ?_⟩
      split
      · exact .inr hv.1
      · exact .inl rfl
theorem fdPick_next {D : DiskSt} {n : Nat} {b nx : Rt} (hb : fdV (pgAt D (rtSlot b)) (rtSlot b) n b) (hn : fdV (pgAt D (rtSlot nx)) (rtSlot nx) n nx) (he : b.E.toNat + 1 = nx.E.toNat) : fdPick (pgAt D 0) (pgAt D 1) n = (nx, 0) := by
  have hsn : rtSlot nx = 1 - rtSlot b := by unfold rtSlot; omega
  have hs := rtSlot_lt b
  rcases (show rtSlot b = 0 ∨ rtSlot b = 1 by omega) with e | e
  · rw [hsn, e] at hn
    rw [e] at hb
    rw [fdPick_both hb hn, if_neg (by omega)]
  · rw [hsn, e] at hn
    rw [e] at hb
    rw [fdPick_both hn hb, if_pos (by omega)]
theorem pageM_other (k k' : Nat) (x : List Byte) (h : k' ≠ k) (i : Nat) (p : Int × List Byte) (hp : (pageM k x 8 0)[i]? = some p) : ∀ j, j < 8 → p.1 ≠ ((k' * 8 + j : Nat) : Int) := by
  intro j hj
  obtain ⟨j', h1, h2, h3⟩ := pageM_keys k x 8 0 p (List.mem_of_getElem? hp)
  omega
theorem rtSlot_next {b nx : Rt} (he : b.E.toNat + 1 = nx.E.toNat) : rtSlot nx = 1 - rtSlot b ∧ rtSlot nx ≠ rtSlot b := by unfold rtSlot; omega
end Go.Proofs.Ytihljjfnjclefaa
/- page: the walks through Kind, Same. -/
set_option linter.unusedVariables false
set_option linter.unusedSimpArgs false
namespace Go.Proofs.Ytihljjfnjclefaa
open Go.ChangeShapes Go.WideShapes Go.ChangeAt Go.RowKit
attribute [local go_sem] nb_nonneg nb_lt8 nb_lt64
set_option maxRecDepth 100000
theorem pbox22 (w : World) (a b c d e f : Value) : let W := (w.alloc (.cells #[a, b, c] 71)).alloc (.cells #[d, e, f] 71)
    FB w W ∧ W.heap[w.heap.size]? = some (.cells #[a, b, c] 71 (0, 0)) ∧ W.heap[w.heap.size + 1]? = some (.cells #[d, e, f] 71 (0, 0)) ∧ W.heap.size = w.heap.size + 2 := by
  refine ⟨((FB.refl w).alloc _).alloc _, ?_, ?_, by simp⟩
  · rw [((FB.refl (w.alloc (.cells #[a, b, c] 71))).alloc _).block _ (by simp)]; exact heap_alloc_new _ _
  · have := heap_alloc_new (w.alloc (.cells #[a, b, c] 71)) (.cells #[d, e, f] 71)
    simpa using this
end Go.Proofs.Ytihljjfnjclefaa
/- page: the chapter's examples (lives). -/
set_option linter.unusedVariables false
set_option linter.unusedSimpArgs false
namespace Go.Proofs.Ytihljjfnjclefaa
open Go.ChangeShapes Go.WideShapes Go.ChangeAt Go.RowKit
set_option maxRecDepth 100000

def ab2 : List Byte := [97#8, 98#8]
theorem ab_ok : pgB 6 258#32 ab2 = (pgBytes 6#8 258#32 ab2, 0) := by unfold pgB; rw [if_pos (by decide)]; rfl
theorem ab_len : (pgBytes 6#8 258#32 ab2).length = 4096 := pgBytes_len _ _ (by decide)
theorem ab_read : pgR (pgBytes 6#8 258#32 ab2) = ((6, 258#32, pgPad ab2), 0) := pgR_bytes (K := 6) (n := 258#32) (x := ab2) (by decide)
theorem ab_head : (pgBytes 6#8 258#32 ab2).take 12 = [84#8, 77#8, 1#8, 6#8, 2#8, 1#8, 0#8, 0#8, 0#8, 0#8, 0#8, 0#8] := by rw [pgBytes_take]; decide
theorem ab_pad : (pgPad ab2).take 3 = [97#8, 98#8, 0#8] := by
  unfold pgPad
  rw [show 4080 - ab2.length = 4077 + 1 from by decide, List.replicate_succ]; rfl
theorem ab_padlen : (pgPad ab2).length = 4080 := pgPad_len (by decide)
theorem ab_same : pgSame 6 258#32 (pgPad ab2) 6 258#32 ab2 = true := by unfold pgSame; rw [trimz_pad]; simp
end Go.Proofs.Ytihljjfnjclefaa
/- the reference of layer 1: a reader of four bytes, and the word that it reads. -/
set_option linter.unusedVariables false
set_option linter.unusedSimpArgs false
namespace Go.Proofs.Ytihljjfnjclefaa
open Go.ChangeShapes Go.WideShapes Go.ChangeAt Go.RowKit
attribute [local go_sem] nb_nonneg nb_lt8 nb_lt64
set_option maxRecDepth 100000

set_option maxHeartbeats 1000000 in
theorem rr_New (xs : List Byte) (A : Option Addr) (c : Nat) (w : World) (hx : xs.length = 4) (hr : Rd w A xs) :
    Calls Try.prog 52 #[.slice A 4 c] w fun e w' => ∃ g b c', e = .returned (.pointer (some ⟨g, 0, none⟩)) ∧ w'.heap[g]? = some (.cells #[.slice (some ⟨b, 0, none⟩) 4 c', .int .i64 0] 113 (0, 0)) ∧ Rd w' (some ⟨b, 0, none⟩) xs ∧ 4 ≤ c' ∧ c' ≤ maxLen ∧ b < g ∧ w.heap.size ≤ g ∧ FB w w' := by
  have HR := Lib.hid hr
  have HX := Lib.hid hx
  clear hr hx
  go_enter Try.func52, Try.ntmps52
  go_wp2_with (at_builtin; (refine wpList_append_bytes rfl _ _ rfl w.heap.size _ [] (OwnV.lit _ w [] (by simp)) rfl A c xs (by rw [HX.out]; rfl) (HR.out.alloc _) (by simp [HX.out]) (by simp) ?_; intro v' w1 ho hg _; obtain ⟨A', c', e', h1, h2, -, -⟩ := Own.form ho; rw [List.nil_append, HX.out] at e' h1; subst e'; have HO := Lib.hid ho; have HG := Lib.hid hg; have H1 := Lib.hid h1; have H2 := Lib.hid h2; clear ho hg h1 h2))
  go_ret
  obtain ⟨b, rfl, hb1, hb2⟩ := OwnV.head0 HO.out (by rw [vbs_length, List.nil_append, HX.out]; omega)
  refine ⟨w1.heap.size, b, c', rfl, heap_alloc_new _ _, (Own.info HO.out).2.2.1.alloc _, H1.out, H2.out, hb2, ?_, (((FB.refl w).alloc _).grown HG.out (by simp [Value.ownBlock])).alloc _⟩
  have := HG.out.size
  simp at this; omega
set_option maxHeartbeats 1000000 in
theorem rr_take (xs : List Byte) (g b c : Nat) (w : World) (hx : xs.length = 4) (hrow : w.heap[g]? = some (.cells #[.slice (some ⟨b, 0, none⟩) 4 c, .int .i64 0] 113 (0, 0))) (hr : Rd w (some ⟨b, 0, none⟩) xs) (h4 : 4 ≤ c) (hm : c ≤ maxLen) :
    Calls Try.prog 72 #[.pointer (some ⟨g, 0, none⟩), .int .i64 4] w fun e w' => ∃ A' c', e = .returned (.tuple #[.slice A' 4 c', .bool true]) ∧ Rd w' A' xs ∧ TS [g] w w' := by
  have HR := Lib.hid hr
  have HX := Lib.hid hx
  have HROW := Lib.hid hrow
  have HM := Lib.hid hm
  have hm2 : (c : Int) ≤ 9223372036854775807 := by unfold maxLen at hm; omega
  have h4z : (4 : Int) ≤ (c : Int) := by omega
  obtain ⟨q0, q1⟩ := row2 hrow
  obtain ⟨r0, r1⟩ := row2 ((((FB.refl w).alloc (.cells #[] 5)).block _ (Array.getElem?_eq_some_iff.1 hrow).1).trans hrow)
  clear hr hx hrow hm
  go_enter Try.func72, Try.ntmps72
  go_upto_region 6 with (at_builtin; refine wpList_append_bytes rfl _ _ rfl w.heap.size _ [] (OwnV.lit _ w [] (by simp)) rfl (some ⟨b, 0, none⟩) c xs (by rw [HX.out]; rfl) (HR.out.alloc _) (by simp [HX.out]) (by simp) ?_; intro v' w1 ho hg _; have HO := Lib.hid ho; have HG := Lib.hid hg; clear ho hg)
  have HO1 := Lib.hid (show Own w1 w.heap.size v' xs from by have := HO.out; rwa [List.nil_append] at this)
  have hfb := ((FB.refl w).alloc (.cells #[] 5)).grown HG.out (by simp [Value.ownBlock])
  have hrow1 := (hfb.block _ (Array.getElem?_eq_some_iff.1 HROW.out).1).trans HROW.out
  obtain ⟨s0, s1⟩ := row2 hrow1
  have sf := frozen_row _ hrow1 0
  have HTS := Lib.hid (fun v0 => show TS [g] w (w1.setCell ⟨g, 0, none⟩ v0) from (TS.of hfb).then (TS.tb (TB.set w1 0 _) (by simp)))
  obtain ⟨A', c', rfl, -, -, h3, -⟩ := Own.form HO1.out
  have HRD := Lib.hid (fun v0 => (show TS [g] w1 (w1.setCell ⟨g, 0, none⟩ v0) from TS.tb (TB.set w1 0 _) (by simp)).rd h3 (fun ad ha hm => by
    have h1 := ((Own.info HO1.out).2.2.2.2 ad ha).1
    have h2 := (Array.getElem?_eq_some_iff.1 HROW.out).1
    simp at hm; omega))
  rw [HX.out]
  clear q0 q1 r0 r1 HO HG HO1 hfb hrow1 HR HROW h3
  by_cases h5 : c = 4
  · subst h5
    go_wp2_with fail
    go_ret2
    exact ⟨A', c', rfl, HRD.out _, HTS.out _⟩
  · have h6 : 4 < c := by omega
    have h7 : (4 : Int) < (c : Int) := by omega
    go_wp2_with fail
    go_ret2
    exact ⟨A', c', rfl, HRD.out _, HTS.out _⟩
set_option maxHeartbeats 1000000 in
theorem rr_Word (xs : List Byte) (g b c : Nat) (w : World) (hx : xs.length = 4) (hrow : w.heap[g]? = some (.cells #[.slice (some ⟨b, 0, none⟩) 4 c, .int .i64 0] 113 (0, 0))) (hr : Rd w (some ⟨b, 0, none⟩) xs) (h4 : 4 ≤ c) (hm : c ≤ maxLen) :
    Calls Try.prog 53 #[.pointer (some ⟨g, 0, none⟩), .int .i64 4] w fun e w' => e = .returned (.int .u64 (nb (xword xs))) ∧ TS [g] w w' := by
  have HC := Lib.hid (rr_take xs g b c w hx hrow hr h4 hm)
  have HX := Lib.hid hx
  obtain ⟨q0, q1⟩ := row2 hrow
  clear hx hrow hr h4 hm
  go_enter Try.func53, Try.ntmps53
  go_wp2_with fail
  refine HC.out.mono ?_
  rintro e w1 ⟨A', c', rfl, hr, hts⟩
  have HR := Lib.hid hr
  have HTS := Lib.hid hts
  clear hr hts q0 q1 HC
  go_wp2_with fail
  go_loop [7, 8] (fun s i => ∃ j : Nat, j ≤ 4 ∧ i = .int .i64 j ∧ s = .int .u64 (nb (xword (xs.take j)))) (fun _ i => 4 - (intOf i).toNat)
  case atStart => exact ⟨0, by omega, rfl, by simp [xword, nb_zero]⟩
  case round =>
    obtain ⟨j, hj, rfl, rfl⟩ := hrel
    by_cases hlt : j < 4
    · obtain ⟨b0, o0, rfl, hb0, hcell⟩ := HR.out.form (by rw [HX.out]; omega)
      have hc := hcell j (by rw [HX.out]; omega)
      have HS := Lib.hid (show xword (xs.take (j + 1)) = xword (xs.take j) + ((xs[j]'(by rw [HX.out]; omega)).setWidth 64) <<< (8 * j) by
        rw [List.take_succ_eq_append_getElem (by rw [HX.out]; omega), xword_add, show (xs.take j).length = j by rw [List.length_take, HX.out]; omega])
      clear hcell
      have hjx : (j : Int) < 4 := by omega
      generalize xs[j]'(by rw [HX.out]; omega) = y at *
      generalize xword (xs.take j) = s at *
      have hsh : IntKind.u64.wrap (nb y * 2 ^ (8 * j)) = nb (y.setWidth 64 <<< (8 * j)) := by rw [← wrap_shl, nb_setWidth y (by omega)]
      have hor := wrap_add64 s (y.setWidth 64 <<< (8 * j))
      unfold vb at hc
      have hwy : IntKind.u64.wrap (nb y) = nb y := by rw [wrap_u64]; exact Int.emod_eq_of_lt (nb_nonneg _) (by have := nb_lt8 y; omega)
      go_wp2
      go_round
      case rel => exact ⟨j + 1, by omega, by go_num, by rw [HS.out, ← hor, ← hsh]⟩
      case measure => simp [intOf]; omega
    · obtain rfl : j = 4 := by omega
      go_wp2
      go_ret
      exact ⟨by rw [List.take_of_length_le (by rw [HX.out]; omega)]; rfl, HTS.out⟩
end Go.Proofs.Ytihljjfnjclefaa
/- The walks through the reference of chapter 3, and the chapter's examples. -/
set_option linter.unusedVariables false
set_option linter.unusedSimpArgs false
namespace Go.Proofs.Ytihljjfnjclefaa
open Go.ChangeShapes Go.WideShapes Go.ChangeAt Go.RowKit
attribute [local go_sem] nb_beq nb_bne nb_beq1 nb_mod8 nb_mod2 nb_tmod2 nb_shr_8 nb_shr_1 bits_xor32 bits_and32 bits_xor8 bits_xor32l bits_and32l bits_not32 BitVec.setWidth_eq nb_nonneg nb_lt8

theorem info_tab : (Try.prog.info? 120).map (·.size) = some 256 := (zero_of_info zero_tab).2

theorem size_tab' {T : Array Value} (h : TabTo T 256) : (Try.prog.info? 120).map (·.size) = some T.toList.length := by rw [Array.length_toList, h.1]; exact info_tab
set_option maxRecDepth 100000 in
set_option maxHeartbeats 400000 in
theorem ref_On (T : Array Value) (t : Byte → BitVec 32) (s : BitVec 32) (xs : List Byte) (A : Option Addr) (c : Nat) (w : World) (hc : xs.length ≤ c) (hm : c ≤ maxLen) (hr : Rd w A xs) (hT : IsTab T t) :
    Calls Try.prog 84 #[.agg T, .int .u32 (nb s), .slice A xs.length c] w fun e w' => e = .returned (.int .u32 (nb (crcOn t s xs))) ∧ w.alloc (.cells T 120) = w' := by
  have HT := Lib.hid hT
  have HR := Lib.hid hr
  clear hT hr
  unfold maxLen at hm
  go_enter Try.func84, Try.ntmps84
  go_wp2
  go_loop [7, 8] (fun st i => ∃ k : Nat, k ≤ xs.length ∧ i = .int .i64 k ∧ st = .int .u32 (nb ((xs.take k).foldl (crcStep t) (~~~ s)))) (fun _ i => xs.length - (intOf i).toNat)
  case atStart => exact ⟨0, by omega, rfl, by simp⟩
  case round =>
    obtain ⟨k, hk, rfl, rfl⟩ := hrel
    by_cases hlt : k < xs.length
    · obtain ⟨b, o, rfl, hb, hcell⟩ := HR.out.form (by omega)
      have hck := hcell k hlt
      unfold vb at hck
      clear hcell
      have hsn : List.foldl (crcStep t) (~~~s) (List.take (k + 1) xs) = crcStep t (List.foldl (crcStep t) (~~~s) (List.take k xs)) xs[k] := by
        rw [List.take_succ_eq_append_getElem hlt, List.foldl_append]; rfl
      have HS := Lib.hid hsn
      clear hsn
      generalize hst : List.foldl (crcStep t) (~~~s) (List.take k xs) = st at *
      have HST := Lib.hid hst
      clear hst
      generalize hx : xs[k] = x at *
      have HX := Lib.hid hx
      clear hx
      have ht := HT.out.2 (st.setWidth 8 ^^^ x)
      go_wp2
      go_round
      case rel => exact ⟨k + 1, by omega, by go_num, by rw [HS.out]; rfl⟩
      case measure => simp [intOf]; omega
    · go_wp2
      go_ret
      have : k = xs.length := by omega
      subst this
      exact ⟨by simp [crcOn], rfl⟩

set_option maxRecDepth 100000 in
set_option maxHeartbeats 400000 in
theorem ref_Table (w : World) :
    Calls Try.prog 85 #[] w fun e w' => ∃ T, e = .returned (.agg T) ∧ TabTo T 256 ∧ Below w.heap.size w w' := by
  have hz := (zero_of_info zero_tab).1
  go_enter Try.func85, Try.ntmps85
  go_wp2
  clear hz
  go_loopw [2, 3, 4] (fun i _ _ wr => ∃ k C, k ≤ 256 ∧ i = .int .i64 (k : Nat) ∧ wr = (w.alloc (.cells zeroTab 120)).alloc (.cells C 120) ∧ TabTo C k) (fun i _ _ _ => 256 - (intOf i).toNat)
  case atStart => exact ⟨0, zeroTab, by omega, rfl, rfl, TabTo.zero⟩
  case round =>
    obtain ⟨k, C, hk, rfl, rfl, hC⟩ := hrel
    by_cases hlt : k < 256
    · obtain ⟨v, hv⟩ := hC.at k hlt
      have hset := hC.set hlt
      have HC := Lib.hid hset
      clear hC hset
      go_wp2
      go_loop [3, 4] (fun x j => ∃ n : Nat, n ≤ 8 ∧ j = .int .i64 n ∧ x = .int .u32 (nb (crcBits n (BitVec.ofNat 32 k)))) (fun _ j => 8 - (intOf j).toNat)
      case atStart => exact ⟨0, by omega, rfl, by rw [show crcBits 0 (BitVec.ofNat 32 k) = BitVec.ofNat 32 k from rfl, ofNat32_nb k hlt]⟩
      case round =>
        obtain ⟨n, hn, rfl, rfl⟩ := hrel
        by_cases hln : n < 8
        · have hsucc := crcBits_succ n (BitVec.ofNat 32 k)
          have HS := Lib.hid hsucc
          clear hsucc
          generalize crcBits n (BitVec.ofNat 32 k) = x at *
          by_cases hb : x &&& 1#32 = 1#32
          · have hb1 : (x &&& 1#32 == 1#32) = true := by rw [hb]; rfl
            have HE : crcBit x = (x >>> 1) ^^^ 0x82f63b78#32 := by unfold crcBit; rw [if_pos hb]
            have HE := Lib.hid HE
            clear hb
            go_wp2
            go_round
            case rel => exact ⟨n + 1, by omega, by go_num, by rw [HS.out, HE.out]⟩
            case measure => simp [intOf]; omega
          · have hb1 : (x &&& 1#32 == 1#32) = false := beq_eq_false_iff_ne.2 hb
            have HE : crcBit x = x >>> 1 := by unfold crcBit; rw [if_neg hb]
            have HE := Lib.hid HE
            clear hb
            go_wp2
            go_round
            case rel => exact ⟨n + 1, by omega, by go_num, by rw [HS.out, HE.out]⟩
            case measure => simp [intOf]; omega
        · obtain rfl : n = 8 := by omega
          go_wp2
          go_roundw
          case rel => exact ⟨k + 1, _, by omega, by go_num, rfl, HC.out⟩
          case measure => simp [intOf]; omega
    · obtain rfl : k = 256 := by omega
      have hsz : (Try.prog.info? 120).map (·.size) = some C.size := by rw [hC.1]; exact info_tab
      have hall : C.all (·.oneCell') = true := by rw [← Array.all_toList]; exact List.all_eq_true.2 hC.2.1
      have hl := run_loadAt_new (P := Try.prog) (w.alloc (.cells zeroTab 120)) 120 C 256 69 Try.underlying120 hsz
      rw [show (w.alloc (.cells zeroTab 120)).heap.size = w.heap.size + 1 from by simp] at hl
      have hs : (Instr.storeAt 120 (.pointer (some ⟨w.heap.size, 0, none⟩)) (.agg C)).run Try.prog ((w.alloc (.cells zeroTab 120)).alloc (.cells C 120)) = .ok () (((w.alloc (.cells zeroTab 120)).alloc (.cells C 120)).setRow w.heap.size C) := by
        simp only [Instr.storeAt, Instr.sureAddr, Sem.run_bind, Sem.run_pure, Result.andThen]
        exact run_storeVar_row _ _ _ _ zeroTab C (heap_alloc2_old _ _ _) hsz (by rw [zeroTab_size, hC.1]) hall
      have hg : (((w.alloc (.cells zeroTab 120)).alloc (.cells C 120)).setRow w.heap.size C).heap[w.heap.size]? = some (.cells C 120 (0, 0)) := setRow_heap _ _ zeroTab C _ _ (heap_alloc2_old _ _ _)
      have hbl : Below w.heap.size w (((w.alloc (.cells zeroTab 120)).alloc (.cells C 120)).setRow w.heap.size C) :=
        ⟨rfl, rfl, rfl, by simp [World.setRow]; omega, fun k hk => (setRow_other _ w.heap.size k C (by omega)).trans ((Below.heap_alloc _ _ k (by simp; omega)).trans (Below.heap_alloc _ _ k hk))⟩
      have HC := Lib.hid hC
      have HZ := Lib.hid hsz
      have HG := Lib.hid hg
      have HB := Lib.hid hbl
      clear hC hsz hall hg hbl
      generalize hW : ((w.alloc (.cells zeroTab 120)).alloc (.cells C 120)).setRow w.heap.size C = W at *
      clear hW
      go_wp2_with (first | (refine wpList_load_by rfl _ _ rfl _ hl ?_) | (refine wpList_store_by rfl _ _ _ rfl _ hs ?_))
      exact bodyPost_ret (v := .agg C) (results_cell_row Try.results85 _ _ w.heap.size 120 C (0, 0) _ rfl HG.out Try.underlying120 rfl HZ.out) rfl ⟨C, rfl, HC.out, HB.out⟩

set_option maxRecDepth 100000 in
set_option maxHeartbeats 400000 in
theorem ref_Sum (xs : List Byte) (A : Option Addr) (c : Nat) (w : World) (hc : xs.length ≤ c) (hm : c ≤ maxLen) (hr : Rd w A xs) :
    Calls Try.prog 79 #[.slice A xs.length c] w fun e w' => e = .returned (.int .u32 (nb (crcSum xs))) ∧ Below w.heap.size w w' := by
  have HR := Lib.hid hr
  clear hr
  go_enter Try.func79, Try.ntmps79
  go_wp2_with fail
  refine (ref_Table _).mono ?_
  rintro e w1 ⟨T, rfl, hT, hb⟩
  have HT := Lib.hid hT
  have HB := Lib.hid hb
  clear hT hb
  go_wp2_with fail
  rw [show (0 : Int) = nb 0#32 from nb_zero.symm]
  refine (ref_On T crcT _ xs A c _ hc hm (HR.out.below HB.out) HT.out.tab).mono ?_
  rintro e w2 ⟨rfl, rfl⟩
  go_wp2
  go_ret
  exact ⟨rfl, HB.out.alloc HB.out.size _⟩

end Go.Proofs.Ytihljjfnjclefaa
/- the reference of layer 5: sum. -/
set_option linter.unusedVariables false
set_option linter.unusedSimpArgs false
namespace Go.Proofs.Ytihljjfnjclefaa
open Go.ChangeShapes Go.WideShapes Go.ChangeAt Go.RowKit
attribute [local go_sem] nb_nonneg nb_lt8 nb_lt64
set_option maxRecDepth 100000

theorem OwnV.cellset {e : TypeId} {w : World} {base n g c : Nat} {vs : List Value} (h : OwnV e w base (.slice (some ⟨g, 0, none⟩) n c) vs) {j : Nat} (hj : j < vs.length) :
    w.cell? ⟨g, j, none⟩ = some vs[j] ∧ w.frozen? ⟨g, j, none⟩ = false ∧ ∀ u, OwnV e (w.setCell ⟨g, j, none⟩ u) base (.slice (some ⟨g, 0, none⟩) n c) (vs.set j u) := by
  obtain ⟨_, _, _, hn, _⟩ := OwnV.info h
  subst hn
  have hr := h
  unfold OwnV at hr
  refine ⟨?_, World.ownsRow.frozenAt hr j, fun u => ?_⟩
  · rw [World.ownsRow.cellAt hr j (by omega), List.getElem?_eq_getElem hj]
  · have := (World.ownsRow.stored hr j u).1
    unfold OwnV
    rw [List.length_set]
    exact this
def zro (b : List Byte) (k : Nat) : List Byte := b.take 12 ++ (List.replicate k 0#8 ++ b.drop (12 + k))
theorem zro_zero (b : List Byte) : zro b 0 = b := by simp [zro]
theorem zro_four (b : List Byte) : zro b 4 = b.take 12 ++ (z4 ++ b.drop 16) := rfl
theorem zro_len {b : List Byte} {k : Nat} (h : 12 + k ≤ b.length) : (zro b k).length = b.length := by simp [zro]; omega
theorem zro_succ {b : List Byte} {k : Nat} (h : 12 + k < b.length) : (zro b k).set (12 + k) 0#8 = zro b (k + 1) := by
  have l12 : (b.take 12).length = 12 := by simp; omega
  unfold zro
  rw [List.set_append, if_neg (by omega), l12, List.set_append, if_neg (by simp), List.length_replicate, show 12 + k - 12 - k = 0 from by omega, List.drop_eq_getElem_cons h, List.set_cons_zero, List.replicate_succ', List.append_assoc, show 12 + (k + 1) = 12 + k + 1 from rfl]
  rfl
set_option maxHeartbeats 2000000 in
theorem r5_sum (b : List Byte) (A : Option Addr) (c : Nat) (w : World) (hl : b.length = 4096) (hr : Rd w A b) :
    Calls Try.prog 71 #[.slice A 4096 c] w fun e w' => e = .returned (.int .u32 (nb (crcSum (b.take 12 ++ (z4 ++ b.drop 16))))) ∧ FB w w' := by
  have HR := Lib.hid hr
  have HL := Lib.hid hl
  clear hr hl
  go_enter Try.func71, Try.ntmps71
  go_upto_region 2 with (at_builtin; refine wpList_append_bytes rfl _ _ rfl w.heap.size _ [] (OwnV.lit _ w [] (by simp)) rfl A c b (by rw [HL.out]; rfl) (HR.out.alloc _) (by simp [HL.out]) (by simp) ?_; intro v' w1 ho hg _; obtain ⟨A', c', e', -, -, -, -⟩ := Own.form ho; rw [List.nil_append, HL.out] at e'; subst e'; rw [List.nil_append] at ho; have HO := Lib.hid ho; have HG := Lib.hid hg; clear ho hg)
  obtain ⟨g, rfl, hg1, -⟩ := OwnV.head0 HO.out (by rw [vbs_length, HL.out]; omega)
  have HFB := Lib.hid (((FB.refl w).alloc (.cells #[] 5)).grown HG.out (by simp [Value.ownBlock]))
  have HGB := Lib.hid hg1
  clear hg1 HG
  go_wp2_with fail
  go_loopw [4] (fun c4 wl => ∃ k : Nat, k ≤ 4 ∧ c4 = .int .i64 (12 + (k : Int)) ∧ Hid (Own wl w.heap.size (.slice (some ⟨g, 0, none⟩) 4096 c') (zro b k)) ∧ Hid (FB w wl)) (fun c4 wl => 16 - (intOf c4).toNat)
  case atStart => exact ⟨0, by omega, rfl, Lib.hid (by rw [zro_zero]; exact HO.out), HFB.out⟩
  case round =>
    obtain ⟨k, hk, rfl, HOK, HW⟩ := hrel
    by_cases hlt : k < 4
    · obtain ⟨q, hq⟩ : ∃ q, q = 12 + k := ⟨_, rfl⟩
      rw [show (12 : Int) + (k : Int) = (q : Int) from by omega]
      have hq16 : (q : Int) < 16 := by omega
      have hq4 : (q : Int) < 4096 := by omega
      have hwq : IntKind.i64.wrap ((q : Int) + 1) = (q : Int) + 1 := by rw [IntKind.wrap_i64]; omega
      have HLZ := Lib.hid (show (zro b k).length = 4096 from by rw [zro_len (by rw [HL.out]; omega), HL.out])
      obtain ⟨s0, sf, sset⟩ := OwnV.cellset HOK.out (j := q) (by rw [vbs_length, HLZ.out]; omega)
      rw [vbs_get _ _ (by rw [HLZ.out]; omega)] at s0
      unfold vb at s0
      have HO2 := Lib.hid (show Own (wr.setCell ⟨g, q, none⟩ (.int .u8 0)) w.heap.size (.slice (some ⟨g, 0, none⟩) 4096 c') (zro b (k + 1)) from by
        have h1 := sset (vb 0#8)
        unfold Own
        rw [← zro_succ (by rw [HL.out]; omega), ← hq, show vbs ((zro b k).set q 0#8) = (vbs (zro b k)).set q (vb 0#8) from by unfold vbs; rw [List.map_set]]
        exact h1)
      have HW2 := Lib.hid (HW.out.set (p := ⟨g, q, none⟩) HGB.out (.int .u8 0))
      have HQ := Lib.hid hq
      have HLT := Lib.hid hlt
      generalize (zro b k)[q]'(by rw [HLZ.out]; omega) = zq at *
      clear sset hq hlt hk
      go_wp2_with fail
      go_roundw
      case rel => exact ⟨k + 1, by have := HLT.out; omega, by have := HQ.out; go_num, HO2.out, HW2.out⟩
      case measure => have := HQ.out; have := HLT.out; simp [intOf]; omega
    · obtain rfl : k = 4 := by omega
      have hcw := ref_Sum (zro b 4) (some ⟨g, 0, none⟩) c' wr (Own.info HOK.out).1 (Own.info HOK.out).2.1 (Own.info HOK.out).2.2.1
      rw [zro_len (by rw [HL.out]; omega), HL.out, zro_four] at hcw
      have HC := Lib.hid hcw
      rw [show (12 : Int) + ((4 : Nat) : Int) = 16 from rfl]
      clear hcw hk hlt
      go_wp2_with fail
      refine HC.out.mono ?_
      rintro e w5 ⟨rfl, hb⟩
      have HE := Lib.hid (HW.out.call hb)
      clear hb
      go_wp2
      go_ret
      exact ⟨rfl, HE.out⟩
end Go.Proofs.Ytihljjfnjclefaa
/- the reference of layer 5: Bytes. -/
set_option linter.unusedVariables false
set_option linter.unusedSimpArgs false
namespace Go.Proofs.Ytihljjfnjclefaa
open Go.ChangeShapes Go.WideShapes Go.ChangeAt Go.RowKit
attribute [local go_sem] nb_nonneg nb_lt8 nb_lt64
set_option maxRecDepth 100000

theorem append_none (w : World) {base : Nat} {A : Option Addr} {l c : Nat} (xs : List Byte) (h : Own w base (.slice A l c) xs) (hl : xs.length = l) (h0 : 0 < l) (ty : TypeId) :
    (Builtin.append_ #[22, 3] ty #[.slice A l c, .int .i64 ((0 : Nat) : Int)]).run Try.prog w = .ok (.slice A l c) w := by
  obtain ⟨i, hi, hz, hsz, hby⟩ := info_parts info_u8
  have hc := (Own.info h).1
  rw [hl] at hc
  obtain ⟨g, rfl, -, -⟩ := OwnV.head0 h (by rw [vbs_length]; omega)
  have hw : IntKind.i64.wrap 0 = 0 := rfl
  simp [Builtin.append_, run_underlying Try.underlying22, run_underlying Try.underlying3, sizeOf, typeInfo, hi, hsz, hby, asInt, asIntOf, hw, hc, storeCells]
set_option maxHeartbeats 4000000 in
theorem r5_Bytes (K : Int) (n : BitVec 32) (x : List Byte) (A : Option Addr) (c : Nat) (w : World) (hx : x.length ≤ 1000000000) (hr : Rd w A x) :
    Calls Try.prog 49 #[.agg #[.int .i64 K, .int .u32 (nb n), .slice A x.length c]] w fun e w' => PgBy (pgB K n x) w e w' := by
  have HF := Lib.hid ((FB.refl w).alloc (.cells #[.int .i64 K, .int .u32 (nb n), .slice A x.length c] 71))
  have HR := Lib.hid hr
  obtain ⟨R, hR⟩ : ∃ R, R = pgB K n x := ⟨_, rfl⟩
  rw [← hR]
  unfold pgB at hR
  clear hr
  by_cases h1 : K < 1
  · obtain rfl : R = ([], 2) := by rw [hR, if_neg (by rw [pgOk_iff]; omega)]
    clear hR
    go_enter Try.func49, Try.ntmps49
    go_wp2
    go_ret2
    exact ⟨none, 0, rfl, Own.nil _ _, HF.out⟩
  · by_cases h2 : 7 < K
    · obtain rfl : R = ([], 2) := by rw [hR, if_neg (by rw [pgOk_iff]; omega)]
      clear hR
      go_enter Try.func49, Try.ntmps49
      go_wp2
      go_ret2
      exact ⟨none, 0, rfl, Own.nil _ _, HF.out⟩
    · by_cases h3 : 4080 < x.length
      · obtain rfl : R = ([], 2) := by rw [hR, if_neg (by rw [pgOk_iff]; omega)]
        have h3z : 4080 < (x.length : Int) := by omega
        clear hR h3
        go_enter Try.func49, Try.ntmps49
        go_wp2
        go_ret2
        exact ⟨none, 0, rfl, Own.nil _ _, HF.out⟩
      · rw [if_pos (pgOk_iff.2 (by omega))] at hR
        have HRR := Lib.hid hR
        have h3z : ¬ 4080 < (x.length : Int) := by omega
        have HX := Lib.hid (show x.length ≤ 4080 from by omega)
        have hwK : IntKind.u8.wrap K = K := by rw [IntKind.wrap_u8]; omega
        have hwn : IntKind.u64.wrap (nb n) = nb n := by rw [wrap_u64]; have := nb_lt32 n; have := nb_nonneg n; omega
        obtain ⟨k, hk⟩ : ∃ k, k = BitVec.ofInt 8 K := ⟨_, rfl⟩
        have HKN := Lib.hid (show nb k = K from by rw [hk]; exact nb_kind (by omega))
        rw [← hk] at HRR
        have HLIT := Lib.hid (show ∀ W : World, Rd (W.alloc (.cells #[.int .u8 84, .int .u8 77, .int .u8 1, .int .u8 K] 5)) (some ⟨W.heap.size, 0, none⟩) [0x54#8, 0x4d#8, 1#8, k] from fun W => by
          unfold Rd
          rw [show vbs [0x54#8, 0x4d#8, 1#8, k] = [.int .u8 84, .int .u8 77, .int .u8 1, .int .u8 K] from by rw [← HKN.out]; rfl]
          exact RdV.lit W [.int .u8 84, .int .u8 77, .int .u8 1, .int .u8 K] 5 rfl)
        have HWD := Lib.hid (fun W => by
          have := ref_Word [0x54#8, 0x4d#8, 1#8, k] (some ⟨W.heap.size, 0, none⟩) 4 4 (n.setWidth 64) 4 (W.alloc (.cells #[.int .u8 84, .int .u8 77, .int .u8 1, .int .u8 K] 5)) rfl (by simp) (HLIT.out W) (.inr (.inl rfl))
          rw [nb_setWidth n (by omega)] at this
          exact this.mono (fun e w' h => by
            obtain ⟨v, h1, h2, h3⟩ := h
            exact (show ∃ v, e = .returned v ∧ Own w' W.heap.size v (hd8 k n) ∧ FB W w' from ⟨v, h1, h2.lower (by simp), ((FB.refl W).alloc _).call h3⟩)))
        have HBX := Lib.hid (heap_alloc_new w (.cells #[.int .i64 K, .int .u32 (nb n), .slice A x.length c] 71))
        clear hR hk h3
        go_enter Try.func49, Try.ntmps49
        go_wp2_with fail
        have hcw := HWD.out (w.alloc (.cells #[.int .i64 K, .int .u32 (nb n), .slice A x.length c] 71))
        simp only [World.size_alloc] at hcw
        refine hcw.mono ?_
        rintro e w1 ⟨v, rfl, ho, hb⟩
        obtain ⟨A1, c1, rfl, -, -, -, -⟩ := Own.form ho
        rw [hd8_len] at ho ⊢
        have HF1 := Lib.hid (HF.out.trans hb)
        have HBX1 := Lib.hid ((hb.block _ (Array.getElem?_eq_some_iff.1 HBX.out).1).trans HBX.out)
        have HG1 := Lib.hid (show w.heap.size + 1 ≤ w1.heap.size from by have := hb.le; simpa using this)
        have HO1 := Lib.hid ho
        have HLZ := Lib.hid (show ∀ W : World, Rd (W.alloc (.cells #[.int .u8 0, .int .u8 0, .int .u8 0, .int .u8 0, .int .u8 0, .int .u8 0, .int .u8 0, .int .u8 0] 5)) (some ⟨W.heap.size, 0, none⟩) (z4 ++ z4) from fun W => RdV.lit W (vbs (z4 ++ z4)) 5 rfl)
        clear hcw ho hb HWD HLIT HBX HF hwK hwn
        go_upto_region 6 with (at_builtin; refine wpList_append_bytes rfl _ _ rfl (w.heap.size + 1) _ _ (HO1.out.alloc _) rfl (some ⟨w1.heap.size, 0, none⟩) 8 (z4 ++ z4) rfl (HLZ.out w1) (by rw [hd8_len]; simp [z4]) (by have := HG1.out; simp; omega) ?_; intro v' w2 ho hg _; have HO2 := Lib.hid ho; have HG := Lib.hid hg; clear ho hg)
        have hlo := fun k hk => (OwnV.base HO1.out k hk).1
        have HF2 := Lib.hid ((HF1.out.alloc (.cells #[.int .u8 0, .int .u8 0, .int .u8 0, .int .u8 0, .int .u8 0, .int .u8 0, .int .u8 0, .int .u8 0] 5)).grown HG.out (fun k hk => by have := hlo k hk; omega))
        have HBX2 := Lib.hid ((HG.out.block _ (Nat.lt_of_lt_of_le (Array.getElem?_eq_some_iff.1 HBX1.out).1 (by simp)) (fun e => by have := hlo _ e.symm; omega)).trans (((FB.refl w1).alloc _).block _ (Array.getElem?_eq_some_iff.1 HBX1.out).1 |>.trans HBX1.out))
        have HS2 := Lib.hid (show w.heap.size + 1 ≤ w2.heap.size from (Array.getElem?_eq_some_iff.1 HBX2.out).1)
        have hl2 : (hd8 k n ++ (z4 ++ z4)).length = 16 := by simp [hd8_len, z4]
        obtain ⟨q0, q1, q2⟩ := prow3 HBX2.out
        clear hlo HG HO1 HLZ HBX1 HF1 HG1
        go_upto_region 7 with (at_builtin; refine wpList_append_bytes rfl _ _ rfl (w.heap.size + 1) _ _ HO2.out rfl A c x rfl (HF2.out.rd HR.out) (by rw [hl2]; have := HX.out; omega) HS2.out ?_; intro v' w3 ho hg _; have HO3 := Lib.hid ho; have HG := Lib.hid hg; clear ho hg)
        clear q0 q1 q2
        have hlo := fun k hk => (OwnV.base HO2.out k hk).1
        have HF3 := Lib.hid (HF2.out.grown HG.out (fun k hk => by have := hlo k hk; omega))
        have HS3 := Lib.hid (show w.heap.size + 1 ≤ w3.heap.size from Nat.le_trans HS2.out HG.out.size)
        have hl3 : (hd8 k n ++ (z4 ++ z4) ++ x).length = 16 + x.length := by rw [List.length_append, hl2]
        obtain ⟨A3, c3, e3, -, -, -, -⟩ := Own.form HO3.out
        rw [hl3] at e3
        subst e3
        have HO3' := Lib.hid HO3.out
        have hln : (hd8 k n ++ (z4 ++ z4) ++ x ++ List.replicate (4080 - x.length) 0#8) = pgB1 k n x := by
          unfold pgB1 pgPad; rw [pgHd_hd8]; simp only [List.append_assoc]
        obtain ⟨m, hm⟩ : ∃ m, m = 4080 - x.length := ⟨_, rfl⟩
        have hmz : (4096 : Int) - ((16 + x.length : Nat) : Int) = (m : Int) := by have := HX.out; omega
        have hmz2 : (4096 : Int) - (16 + (x.length : Int)) = (m : Int) := by have := HX.out; omega
        have hwm : IntKind.i64.wrap (m : Int) = (m : Int) := by rw [IntKind.wrap_i64]; omega
        obtain ⟨v2, w4, hrun, ho2, hgr⟩ : ∃ v' w', (∀ ty, (Builtin.append_ #[22, 3] ty #[.slice A3 (16 + x.length) c3, .int .i64 (m : Int)]).run Try.prog w3 = .ok v' w') ∧ Own w' (w.heap.size + 1) v' (pgB1 k n x) ∧ w3.grownBy w' (Value.slice A3 (16 + x.length) c3).ownBlock := by
          by_cases h0 : 0 < m
          · obtain ⟨v', w', h1, h2, h3⟩ := run_append_zeros w3 (w.heap.size + 1) _ _ HO3.out (by rw [hl3]; omega) m h0 (by rw [hl3]; omega) HS3.out
            rw [hm, hln] at h2
            exact ⟨v', w', h1, h2, h3⟩
          · have hm0 : m = 0 := by omega
            refine ⟨.slice A3 (16 + x.length) c3, w3, fun ty => by rw [hm0]; exact append_none w3 _ HO3.out (by rw [hl3]) (by omega) ty, ?_, World.grownBy.refl _ _⟩
            have q := HO3.out
            rw [show hd8 k n ++ (z4 ++ z4) ++ x = pgB1 k n x from by rw [← hln, ← hm, hm0]; simp] at q
            exact q
        have HRUN := Lib.hid hrun
        have hlo3 := fun k hk => (OwnV.base HO3.out k hk).1
        have HF4 := Lib.hid (HF3.out.grown hgr (fun k hk => by have := hlo3 k hk; omega))
        obtain ⟨A2, c2, rfl, hc2, hm2, -, -⟩ := Own.form ho2
        rw [pgB1_len k n HX.out] at ho2 hc2 HRUN
        obtain ⟨g, rfl, hg1, -⟩ := OwnV.head0 ho2 (by rw [vbs_length, pgB1_len k n HX.out]; omega)
        have HC2 := Lib.hid (And.intro hc2 hm2)
        have HO6 := Lib.hid ho2
        have HF6 := HF4
        have HGB := Lib.hid hg1
        clear hm hl3 hrun hgr hlo hlo3 ho2 hc2 hm2 hg1 hln HO3' HO3 HF3 HF2 HO2 HBX2 HG hl2
        go_upto_region 8 with (at_builtin; refine Lib.wpList_append_run _ rfl _ _ _ _ rfl _ _ rfl rfl _ _ (HRUN.out _) ?_)
        clear HRUN hmz hmz2 hwm
        have HCF := Lib.hid (show (12 : Int) ≤ (c2 : Int) ∧ (c2 : Int) ≤ 9223372036854775807 ∧ 12 < c2 from by have := HC2.out; simp only [maxLen] at this; omega)
        have hf2 := HCF.out.1
        have hf3 := HCF.out.2.1
        have hf6 : ¬ c2 = 12 := by have := HCF.out; omega
        generalize w4 = w6 at *
        obtain ⟨W0, hW0⟩ : ∃ W0 : World, W0 = w6 := ⟨_, rfl⟩
        rw [← hW0]
        refine region_sch (E := TS ([g])) ((0, true) :: (1, true) :: (2, true) :: (3, false) :: (4, true) :: (5, false) :: (6, false) :: []) (by kernel_rfl) (TS.refl _) (fun _ _ _ h k => TS.then h k) (fun _ _ d _ _ h => by cases d <;> exact h) (by kernel_rfl) ?_
        intro ops hops0
        have hops := Lib.hid hops0
        clear hops0
        have HF : TS ([g]) W0 W0.drew := TS.of (FB.refl _).drew
        have HD : FB W0 W0.drew := (FB.refl _).drew
        generalize W0.drew = wF0 at *
        rw [hW0] at HD
        have HFq := Lib.hid (HF6.out.trans HD)
        have HOq := Lib.hid (HD.own HO6.out)
        clear hW0 HD HF HF6 HO6
        repeat (refine sch_take (o := ?_) (v := ?_) (a' := ?_) (at_of hops.out ?_) ?_ (fun W hW => ?_) ?_ ?_; rotate_left 3; (focus (simp only [List.getElem?_toArray, List.getElem?_cons_zero, List.getElem?_cons_succ]; rfl)); (focus (rw [hops.out]; rfl)); (focus (go_simp; with_reducible rfl)); (focus (simp only [Act.put, List.setIfInBounds_toArray, List.set_cons_zero, List.set_cons_succ]; rfl)))
        have HCR := Lib.hid (show Calls Try.prog 71 #[.slice (some ⟨g, 0, none⟩) 4096 c2] wF0 fun e w' => e = .returned (.int .u32 (nb (pgSum k n x))) ∧ FB wF0 w' from by
          have h1 := r5_sum (pgB1 k n x) (some ⟨g, 0, none⟩) c2 wF0 (pgB1_len k n HX.out) (Own.info HOq.out).2.2.1
          rw [pgB1_take, pgB1_drop] at h1
          exact h1)
        (refine sch_call (o := ?_) (f := ?_) (args := ?_) (at_of hops.out ?_) ?_ ?_ ?_; rotate_left 3; (focus (simp only [List.getElem?_toArray, List.getElem?_cons_zero, List.getElem?_cons_succ]; rfl)); (focus (rw [hops.out]; rfl)); (focus (go_simp; constructor <;> with_reducible rfl)); (first | ((with_reducible refine (HCR.out).mono ?_); rintro e w7 ⟨rfl, hb⟩; refine ⟨_, rfl, (TS.of hb), ?_⟩; intro a' ha'; simp only [Act.put, List.setIfInBounds_toArray, List.set_cons_zero, List.set_cons_succ] at ha'; subst ha')))
        have HFr := Lib.hid (HFq.out.trans hb)
        have HOr := Lib.hid (FB.own hb HOq.out)
        clear hb HCR HOq HFq
        generalize hsm : pgSum k n x = sm at *
        have HSM := Lib.hid hsm
        have hws : IntKind.u64.wrap (nb sm) = nb sm := by rw [wrap_u64]; have := nb_lt32 sm; have := nb_nonneg sm; omega
        clear hsm
        repeat (refine sch_take (o := ?_) (v := ?_) (a' := ?_) (at_of hops.out ?_) ?_ (fun W hW => ?_) ?_ ?_; rotate_left 3; (focus (simp only [List.getElem?_toArray, List.getElem?_cons_zero, List.getElem?_cons_succ]; rfl)); (focus (rw [hops.out]; rfl)); (focus (go_simp; with_reducible rfl)); (focus (simp only [Act.put, List.setIfInBounds_toArray, List.set_cons_zero, List.set_cons_succ]; rfl)))
        have HW2 := Lib.hid (show Calls Try.prog 48 #[.slice none 0 0, .int .u64 (nb sm), .int .i64 4] w7 fun e w' => ∃ v, e = .returned v ∧ Own w' w7.heap.size v (oword 4 (sm.setWidth 64)) ∧ FB w7 w' from by
          have h1 := ref_Word [] none 0 0 (sm.setWidth 64) 4 w7 rfl (by simp) (Rd.nil _ _) (.inr (.inl rfl))
          rw [nb_setWidth sm (by omega)] at h1
          exact h1)
        (refine sch_call (o := ?_) (f := ?_) (args := ?_) (at_of hops.out ?_) ?_ ?_ ?_; rotate_left 3; (focus (simp only [List.getElem?_toArray, List.getElem?_cons_zero, List.getElem?_cons_succ]; rfl)); (focus (rw [hops.out]; rfl)); (focus (go_simp; constructor <;> with_reducible rfl)); (first | ((with_reducible refine (HW2.out).mono ?_); rintro e w8 ⟨v8, rfl, ho8, hb⟩; refine ⟨_, rfl, (TS.of hb), ?_⟩; intro a' ha'; simp only [Act.put, List.setIfInBounds_toArray, List.set_cons_zero, List.set_cons_succ] at ha'; subst ha')))
        obtain ⟨A8, c8, rfl, -, -, hr8, -⟩ := Own.form ho8
        have HFs := Lib.hid (HFr.out.trans hb)
        have HOs := Lib.hid (FB.own hb HOr.out)
        obtain ⟨w9, hrunc, hoc, htb⟩ := cp_run HOs.out 12 4084 (c2 - 12) A8 c8 (oword 4 (sm.setWidth 64)) hr8 (by rw [oword_len]; omega) (by rw [oword_len, pgB1_len k n HX.out]; omega)
        rw [pg_splice2 k n x (oword_len _ _)] at hoc
        rw [oword_len] at hrunc ⊢
        (refine cp_sch (o := ?_) (at_of hops.out ?_) ?_ (.tmp 41) (.tmp 45) 22 22 ?_ _ _ ?_ ?_ hrunc (TS.tb htb (by simp)) ?_; rotate_left 1; (focus (simp only [List.getElem?_toArray, List.getElem?_cons_zero, List.getElem?_cons_succ]; rfl)); (focus (rw [hops.out]; rfl)); (focus rfl); (focus rfl); (focus rfl))
        simp only [Act.put, List.setIfInBounds_toArray, List.set_cons_zero, List.set_cons_succ]
        refine sch_done ?_
        have HE := Lib.hid (HFs.out.ts (show TS [g] w8 w9 from TS.tb htb (by simp)) (fun y hy => by have := HGB.out; simp at hy; omega))
        have HO9 := Lib.hid (show Own w9 w.heap.size (.slice (some ⟨g, 0, none⟩) 4096 c2) (pgBytes k n x) from by
          unfold pgBytes; rw [HSM.out]; exact hoc.lower (by omega))
        clear hops hoc htb hrunc HOs HOr HFr HFs hr8 ho8 hb
        go_wp2
        go_ret2
        rw [HRR.out]
        exact ⟨some ⟨g, 0, none⟩, c2, by rw [pgBytes_len k n HX.out]; rfl, by rw [pgBytes_len k n HX.out]; exact HO9.out, HE.out⟩
end Go.Proofs.Ytihljjfnjclefaa
/- root: the reference's Bytes. -/
set_option linter.unusedVariables false
set_option linter.unusedSimpArgs false
namespace Go.Proofs.Ytihljjfnjclefaa
open Go.ChangeShapes Go.WideShapes Go.ChangeAt Go.RowKit
attribute [local go_sem] nb_nonneg nb_lt8 nb_lt64
set_option maxRecDepth 100000

theorem rtCs_cell {W : World} {g : Nat} {r : Rt} {t : TypeId} {fr : Nat × Nat} {k : Nat} (hk : k < 9) (h : W.heap[g]? = some (.cells (rtCs r) t fr)) : W.cell? ⟨g, k, none⟩ = some (.int .u64 (nb ((rtWs r)[k]'(by rw [rtWs_len]; exact hk)))) := by
  rw [cell_of_row _ _ _ _ _ _ h]
  rcases (show k = 0 ∨ k = 1 ∨ k = 2 ∨ k = 3 ∨ k = 4 ∨ k = 5 ∨ k = 6 ∨ k = 7 ∨ k = 8 by omega) with rfl | rfl | rfl | rfl | rfl | rfl | rfl | rfl | rfl <;> rfl
set_option maxHeartbeats 4000000 in
theorem r6_Bytes (r : Rt) (w : World) :
    Calls Try.prog 18 #[rtV r] w fun e w' => PgBy (rtB r) w e w' := by
  obtain ⟨W1, hW1⟩ : ∃ W1 : World, W1 = w.alloc (.cells (rtCs r) 29) := ⟨_, rfl⟩
  have HF := Lib.hid (show FB w W1 from by rw [hW1]; exact (FB.refl w).alloc _)
  have HG := Lib.hid (show W1.heap[w.heap.size]? = some (.cells (rtCs r) 29 (0, 0)) from by rw [hW1]; exact heap_alloc_new w _)
  have HW1 := Lib.hid hW1
  obtain ⟨q0, q1, q2, q3, q4, q5, q6, q7, q8⟩ := prow9 HG.out
  have hck := r6_Check r W1
  unfold rtV rtCs at hck
  have HCK := Lib.hid hck
  unfold rtV
  clear hW1 hck
  go_enter Try.func18, Try.ntmps18
  go_upto_region 1 with fail
  rw [← HW1.out]
  clear HW1
  go_wp2_with fail
  refine HCK.out.mono ?_
  rintro e w1 ⟨rfl, hb⟩
  have HF1 := Lib.hid (HF.out.trans hb)
  have HG1 := Lib.hid ((hb.block _ (Array.getElem?_eq_some_iff.1 HG.out).1).trans HG.out)
  clear q0 q1 q2 q3 q4 q5 q6 q7 q8 hb HCK
  obtain ⟨q0, q1, q2, q3, q4, q5, q6, q7, q8⟩ := prow9 HG1.out
  cases hok : rtOk r with
  | false =>
    have hc : rtChk r = 2 := by unfold rtChk; rw [hok]; rfl
    rw [hc]
    have HB := Lib.hid (rtB_off hok)
    clear hok hc
    go_wp2
    go_ret2
    rw [HB.out]
    exact ⟨none, 0, rfl, Own.nil _ _, HF1.out⟩
  | true =>
    have hc : rtChk r = 0 := by unfold rtChk; rw [hok]; rfl
    rw [hc]
    have HB := Lib.hid (show rtB r = pgB 1 (r.E.setWidth 32) (rtBody r) from by unfold rtB; rw [hok]; rfl)
    have HGB := Lib.hid (show w.heap.size < w1.heap.size from (Array.getElem?_eq_some_iff.1 HG1.out).1)
    clear hok hc HF HG
    obtain ⟨W2, hW2⟩ : ∃ W2 : World, W2 = w1.alloc (.cells (rtCs r) 26) := ⟨_, rfl⟩
    have HF2 := Lib.hid (show FB w1 W2 from by rw [hW2]; exact (FB.refl _).alloc _)
    have HL2 := Lib.hid (show W2.heap[w1.heap.size]? = some (.cells (rtCs r) 26 (0, 0)) from by rw [hW2]; exact heap_alloc_new w1 _)
    unfold rtCs at hW2
    have HW2 := Lib.hid hW2
    clear hW2
    go_upto_region 6 with fail
    rw [← HW2.out]
    clear HW2
    go_wp2_with fail
    go_loopw [5, 7] (fun v i wr => ∃ k : Nat, k ≤ 9 ∧ i = .int .i64 k ∧ Hid (Own wr W2.heap.size v (owords ((rtWs r).take k))) ∧ Hid (FB W2 wr)) (fun _ i _ => 9 - (intOf i).toNat)
    case atStart => exact ⟨0, by omega, rfl, Lib.hid (Own.nil _ _), Lib.hid (FB.refl _)⟩
    case round =>
      obtain ⟨k, hk, rfl, HO, HE⟩ := hrel
      obtain ⟨A, c, e', -, -, -, -⟩ := Own.form HO.out
      rw [owords_takeLen r k hk] at e'
      subst e'
      have HI := Lib.hid (Own.info HO.out)
      have HK := Lib.hid hk
      clear q0 q1 q2 q3 q4 q5 q6 q7 q8
      by_cases hlt : k < 9
      · have hkz : (k : Int) < 9 := by omega
        have hix := rtCs_cell hlt ((HE.out.block _ (Array.getElem?_eq_some_iff.1 HL2.out).1).trans HL2.out)
        have HOW := Lib.hid (owords_take (rtWs r) k (by rw [rtWs_len]; exact hlt))
        generalize (rtWs r)[k]'(by rw [rtWs_len]; exact hlt) = x at *
        have hcw := ref_Word (owords ((rtWs r).take k)) A (8 * k) c x 8 wr (by rw [owords_takeLen r k hk]) (by rw [owords_takeLen r k hk]; omega) HI.out.2.2.1 (.inr (.inr rfl))
        rw [show owordZ 8 x = oword 8 x from by simp [owordZ], ← HOW.out] at hcw
        have HC := Lib.hid hcw
        have HL := Lib.hid hlt
        clear hcw hlt hk
        go_wp2_with fail
        refine HC.out.mono ?_
        rintro e w2 ⟨v, rfl, ho, hb⟩
        have HO2 := Lib.hid (ho.lower (show W2.heap.size ≤ wr.heap.size from HE.out.le))
        have HE2 := Lib.hid (HE.out.trans hb)
        clear ho hb
        go_wp2_with fail
        go_round
        case rel => exact ⟨k + 1, by have := HL.out; omega, by go_num, HO2, HE2⟩
        case measure => have := HL.out; simp [intOf]; omega
      · obtain rfl : k = 9 := by omega
        have HG2 := Lib.hid (((HF2.out.trans HE.out).block _ (Array.getElem?_eq_some_iff.1 HG1.out).1).trans HG1.out)
        obtain ⟨q0, q1, q2, q3, q4, q5, q6, q7, q8⟩ := prow9 HG2.out
        have hcw := r5_Bytes 1 (r.E.setWidth 32) (rtBody r) A c wr (by rw [rtBody_len]; omega) (show Rd wr A (rtBody r) from HI.out.2.2.1)
        rw [rtBody_len, ← HB.out] at hcw
        have HC := Lib.hid hcw
        have hwn : IntKind.u32.wrap (nb r.E) = nb (r.E.setWidth 32) := by rw [IntKind.wrap_u32, nb_mod32]
        clear hcw hlt hk
        go_wp2_with fail
        refine HC.out.mono ?_
        rintro e w2 ⟨A2, c2, rfl, ho, hb⟩
        have HO2 := Lib.hid (ho.lower (show w.heap.size ≤ wr.heap.size from by have := HE.out.le; have := HF2.out.le; have := HGB.out; omega))
        have HE2 := Lib.hid (((HF1.out.trans HF2.out).trans HE.out).trans hb)
        clear ho hb
        go_wp2
        go_ret2
        exact ⟨A2, c2, rfl, HO2.out, HE2.out⟩
end Go.Proofs.Ytihljjfnjclefaa
/- the reference of layer 1: a reader of many bytes, and the words of eight bytes that it reads. -/
set_option linter.unusedVariables false
set_option linter.unusedSimpArgs false
namespace Go.Proofs.Ytihljjfnjclefaa
open Go.ChangeShapes Go.WideShapes Go.ChangeAt Go.RowKit
attribute [local go_sem] nb_nonneg nb_lt8 nb_lt64
set_option maxRecDepth 100000

/-- A reader of the reference: what is left to be read. -/
structure RR (W : World) (g b o c : Nat) (xs : List Byte) : Prop where
  row : W.heap[g]? = some (.cells #[.slice (some ⟨b, o, none⟩) xs.length c, .int .i64 0] 113 (0, 0))
  rd : Rd W (some ⟨b, o, none⟩) xs
  le : xs.length ≤ c
  cm : c ≤ maxLen
  ne : b < g
theorem RR.lt {W : World} {g b o c : Nat} {xs : List Byte} (h : RR W g b o c xs) : g < W.heap.size := (Array.getElem?_eq_some_iff.1 h.row).1
theorem RR.fb {W W' : World} {g b o c : Nat} {xs : List Byte} (h : RR W g b o c xs) (k : FB W W') : RR W' g b o c xs := ⟨(k.block _ h.lt).trans h.row, k.rd h.rd, h.le, h.cm, h.ne⟩
theorem RR.tb {W W' : World} {g g' b o c : Nat} {xs : List Byte} (h : RR W g b o c xs) (k : TB g' W W') (hg : g < g') : RR W' g b o c xs :=
  ⟨(k.out.block _ h.lt (fun e => by simp at e; omega)).trans h.row, k.rd h.rd (fun ad e => by cases e; simp; have := h.ne; omega), h.le, h.cm, h.ne⟩
theorem tbts {g : Nat} {w w' : World} (h : TS [g] w w') : TB g w w' := ⟨h.os, h.tape, h.output, h.size, fun k hk hn => h.block k hk (fun hm => hn (by simp at hm; rw [hm]))⟩
set_option maxHeartbeats 1000000 in
theorem rrl_New (xs : List Byte) (A : Option Addr) (n c : Nat) (w : World) (hn : n = xs.length) (hx : 0 < xs.length) (hl : xs.length ≤ 1000000000) (hr : Rd w A xs) :
    Calls Try.prog 52 #[.slice A n c] w fun e w' => ∃ g b c', e = .returned (.pointer (some ⟨g, 0, none⟩)) ∧ RR w' g b 0 c' xs ∧ w.heap.size ≤ g ∧ FB w w' := by
  subst hn
  have HR := Lib.hid hr
  have HX := Lib.hid hx
  have HL := Lib.hid hl
  clear hr hx hl
  go_enter Try.func52, Try.ntmps52
  go_wp2_with (at_builtin; (refine wpList_append_bytes rfl _ _ rfl w.heap.size _ [] (OwnV.lit _ w [] (by simp)) rfl A c xs rfl (HR.out.alloc _) (by have := HL.out; simp; omega) (by simp) ?_; intro v' w1 ho hg _; obtain ⟨A', c', e', h1, h2, -, -⟩ := Own.form ho; rw [List.nil_append] at e' h1; subst e'; have HO := Lib.hid ho; have HG := Lib.hid hg; have H1 := Lib.hid h1; have H2 := Lib.hid h2; clear ho hg h1 h2))
  go_ret
  obtain ⟨b, rfl, hb1, hb2⟩ := OwnV.head0 HO.out (by rw [vbs_length, List.nil_append]; exact HX.out)
  refine ⟨w1.heap.size, b, c', rfl, ⟨heap_alloc_new _ _, (Own.info HO.out).2.2.1.alloc _, H1.out, H2.out, hb2⟩, ?_, (((FB.refl w).alloc _).grown HG.out (by simp [Value.ownBlock])).alloc _⟩
  have := HG.out.size
  simp at this; omega
set_option maxHeartbeats 1000000 in
theorem rrl_take (n : Nat) (xs : List Byte) (g b o c : Nat) (w : World) (hx : xs.length = n) (h0 : 8 < n) (h : RR w g b o c xs) (hl : n ≤ 100000) :
    Calls Try.prog 72 #[.pointer (some ⟨g, 0, none⟩), .int .i64 8] w fun e w' => ∃ A' c', e = .returned (.tuple #[.slice A' 8 c', .bool true]) ∧ Rd w' A' (xs.take 8) ∧ RR w' g b (o + 8) (c - 8) (xs.drop 8) ∧ TB g w w' := by
  have HX := Lib.hid hx
  have HH := Lib.hid h
  have HT8 := Lib.hid (show (xs.take 8).length = 8 from by rw [List.length_take, hx]; omega)
  have HM := Lib.hid hl
  have hnc := h.le
  rw [hx] at hnc
  have hm2 : (c : Int) ≤ 9223372036854775807 := by have := h.cm; unfold maxLen at this; omega
  have h4z : (8 : Int) ≤ (c : Int) := by omega
  have h5z : (8 : Int) ≤ (n : Int) := by omega
  have h6z : (n : Int) ≤ (c : Int) := by omega
  have h7z : ¬ c = 8 := by omega
  have HNC := Lib.hid (show 8 < n ∧ n ≤ c from by omega)
  have hrow := h.row
  rw [hx] at hrow
  obtain ⟨q0, q1⟩ := row2 hrow
  obtain ⟨r0, r1⟩ := row2 ((((FB.refl w).alloc (.cells #[] 5)).block _ (Array.getElem?_eq_some_iff.1 hrow).1).trans hrow)
  have HROW := Lib.hid hrow
  clear hx hrow h hl h0 hnc
  go_enter Try.func72, Try.ntmps72
  go_upto_region 6 with (at_builtin; refine wpList_append_bytes rfl _ _ rfl w.heap.size _ [] (OwnV.lit _ w [] (by simp)) rfl (some ⟨b, o, none⟩) c (xs.take 8) (by rw [HT8.out]; rfl) ((HH.out.rd.take 8).alloc _) (by simp [HT8.out]) (by simp) ?_; intro v' w1 ho hg _; have HO := Lib.hid ho; have HG := Lib.hid hg; clear ho hg)
  have HO1 := Lib.hid (show Own w1 w.heap.size v' (xs.take 8) from by have := HO.out; rwa [List.nil_append] at this)
  have hfb := ((FB.refl w).alloc (.cells #[] 5)).grown HG.out (by simp [Value.ownBlock])
  have hrow1 := (hfb.block _ (Array.getElem?_eq_some_iff.1 HROW.out).1).trans HROW.out
  have HR1 := Lib.hid hrow1
  obtain ⟨s0, s1⟩ := row2 hrow1
  have sf := frozen_row _ hrow1 0
  have HFB := Lib.hid hfb
  obtain ⟨A', c', e', -, -, h3, -⟩ := Own.form HO1.out
  rw [HT8.out] at e'
  subst e'
  have HRD := Lib.hid h3
  clear q0 q1 r0 r1 HO HG hfb hrow1 h3
  go_wp2_with fail
  go_ret2
  refine ⟨A', c', rfl, TB.rd (TB.set (g := g) w1 0 _) HRD.out (fun ad ha => ?_), ⟨?_, ?_, ?_, ?_, HH.out.ne⟩, (TB.of HFB.out).trans (TB.set (g := g) w1 0 _)⟩
  · have h1 := ((Own.info HO1.out).2.2.2.2 ad ha).1
    have h2 := (Array.getElem?_eq_some_iff.1 HROW.out).1
    omega
  · rw [heap_setCell_same w1 g 0 _ _ _ HR1.out, show (xs.drop 8).length = n - 8 from by rw [List.length_drop, HX.out]]
    rfl
  · exact TB.rd (TB.set (g := g) w1 0 _) ((HFB.out.rd HH.out.rd).drop 8) (fun ad ha => by cases ha; have := HH.out.ne; simp; omega)
  · rw [List.length_drop, HX.out]; have := HNC.out; omega
  · have := HH.out.cm; omega
set_option maxHeartbeats 1000000 in
theorem rrl_Word (n : Nat) (xs : List Byte) (g b o c : Nat) (w : World) (hx : xs.length = n) (h0 : 8 < n) (h : RR w g b o c xs) (hl : n ≤ 100000) :
    Calls Try.prog 53 #[.pointer (some ⟨g, 0, none⟩), .int .i64 8] w fun e w' => e = .returned (.int .u64 (nb (xword (xs.take 8)))) ∧ RR w' g b (o + 8) (c - 8) (xs.drop 8) ∧ TB g w w' := by
  have HC := Lib.hid (rrl_take n xs g b o c w hx h0 h hl)
  have HX := Lib.hid (show (xs.take 8).length = 8 from by rw [List.length_take, hx]; omega)
  obtain ⟨q0, q1⟩ := row2 h.row
  generalize xs.take 8 = xs8 at *
  clear hx h
  go_enter Try.func53, Try.ntmps53
  go_wp2_with fail
  refine HC.out.mono ?_
  rintro e w1 ⟨A', c', rfl, hr, hrr, hts⟩
  have HR := Lib.hid hr
  have HTS := Lib.hid (And.intro hrr hts)
  clear hr hrr hts q0 q1 HC
  go_wp2_with fail
  go_loop [7, 8] (fun s i => ∃ j : Nat, j ≤ 8 ∧ i = .int .i64 j ∧ s = .int .u64 (nb (xword (xs8.take j)))) (fun _ i => 8 - (intOf i).toNat)
  case atStart => exact ⟨0, by omega, rfl, by simp [xword, nb_zero]⟩
  case round =>
    obtain ⟨j, hj, rfl, rfl⟩ := hrel
    by_cases hlt : j < 8
    · obtain ⟨b0, o0, rfl, hb0, hcell⟩ := HR.out.form (by rw [HX.out]; omega)
      have hc := hcell j (by rw [HX.out]; omega)
      have HS := Lib.hid (show xword (xs8.take (j + 1)) = xword (xs8.take j) + ((xs8[j]'(by rw [HX.out]; omega)).setWidth 64) <<< (8 * j) by
        rw [List.take_succ_eq_append_getElem (by rw [HX.out]; omega), xword_add, show (xs8.take j).length = j by rw [List.length_take, HX.out]; omega])
      clear hcell
      have hjx : (j : Int) < 8 := by omega
      generalize xs8[j]'(by rw [HX.out]; omega) = y at *
      generalize xword (xs8.take j) = s at *
      have hsh : IntKind.u64.wrap (nb y * 2 ^ (8 * j)) = nb (y.setWidth 64 <<< (8 * j)) := by rw [← wrap_shl, nb_setWidth y (by omega)]
      have hor := wrap_add64 s (y.setWidth 64 <<< (8 * j))
      unfold vb at hc
      have hwy : IntKind.u64.wrap (nb y) = nb y := by rw [wrap_u64]; exact Int.emod_eq_of_lt (nb_nonneg _) (by have := nb_lt8 y; omega)
      go_wp2
      go_round
      case rel => exact ⟨j + 1, by omega, by go_num, by rw [HS.out, ← hor, ← hsh]⟩
      case measure => simp [intOf]; omega
    · obtain rfl : j = 8 := by omega
      go_wp2
      go_ret
      exact ⟨by rw [List.take_of_length_le (by rw [HX.out]; omega)]; rfl, HTS.out.1, HTS.out.2⟩
end Go.Proofs.Ytihljjfnjclefaa
