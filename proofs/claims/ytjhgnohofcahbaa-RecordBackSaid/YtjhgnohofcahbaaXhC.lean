/- The walk through the hash. -/
import Derived.Test.YtjhgnohofcahbaaXhB
import Derived.Test.YtjhgnohofcahbaaSchL
import Derived.Handy
set_option linter.unusedVariables false
set_option linter.unusedSimpArgs false
namespace Go.Proofs.Ytjhgnohofcahbaa
open Go.ChangeShapes Go.WideShapes Go.ChangeAt Go.RowKit
attribute [local go_sem] nb_nonneg nb_lt8 nb_lt64 wrap_addl64 wrap_mull64 wrap_add64 wrap_mul64 wrap_subl64 bits_xor64 BitVec.setWidth_eq

def lanes (l : List (BitVec 64)) : Array Value := (l.map fun v => Value.int .u64 (nb v)).toArray
/-- What holds at the head of a round of 32 bytes. -/
structure SR (w wr : World) (ga : Nat) (n : BitVec 64) (R : BitVec 64) (m : Nat) (l : List (BitVec 64)) (ys : List Byte) (A : Option Addr) (c : Nat) : Prop where
  val : x32s l n ys = R
  len4 : l.length = 4
  yc : ys.length ≤ c
  yl : ys.length ≤ m
  rd : Rd w A ys
  fb : FB w wr
  row : wr.heap[ga]? = some (.cells (lanes l) 95 (0, 0))

def slen : Value → Nat | .slice _ n _ => n | _ => 0
theorem xh_word8 (xs : List Byte) (A : Option Addr) (n c : Nat) (w : World) (hn : n = xs.length) (hc : xs.length ≤ c) (hm : xs.length ≤ 100000000000000) (hr : Rd w A xs) (hqn : 8 ≤ xs.length) :
    Calls Try.prog 80 #[.slice A n c, .int .i64 8] w fun e w' => e = .returned (.int .u64 (nb (xword (xs.take 8)))) ∧ Below w.heap.size w w' := xh_word xs A n c 8 w hn hc hm hr (by omega) hqn
theorem xh_word4 (xs : List Byte) (A : Option Addr) (n c : Nat) (w : World) (hn : n = xs.length) (hc : xs.length ≤ c) (hm : xs.length ≤ 100000000000000) (hr : Rd w A xs) (hqn : 4 ≤ xs.length) :
    Calls Try.prog 80 #[.slice A n c, .int .i64 4] w fun e w' => e = .returned (.int .u64 (nb (xword (xs.take 4)))) ∧ Below w.heap.size w w' := xh_word xs A n c 4 w hn hc hm hr (by omega) hqn

set_option maxRecDepth 100000 in
set_option maxHeartbeats 4000000 in
theorem xh_Sum_small (sd : BitVec 64) (xs : List Byte) (A : Option Addr) (n c : Nat) (w : World) (hn : n = xs.length) (hc : xs.length ≤ c) (hcm : c ≤ maxLen) (hm : xs.length ≤ 100000000000000) (hr : Rd w A xs) (h32 : ¬ 32 ≤ xs.length) :
    Calls Try.prog 59 #[.int .u64 (nb sd), .slice A n c] w fun e w' => e = .returned (.int .u64 (nb (xsum sd xs))) ∧ Below w.heap.size w w' := by
  subst hn
  have HRY := Lib.hid hr
  have hl := len64 xs.length (by omega)
  have HLL := Lib.hid hl
  have HVAL := Lib.hid (show xaval (x8s (sd + 2870177450012600261#64 + BitVec.ofNat 64 xs.length) xs) = xsum sd xs by unfold xsum; rw [if_neg h32])
  unfold maxLen at hcm
  have HFB := Lib.hid (FB.refl w)
  have h32' : ¬ (32 : Int) ≤ xs.length := by omega
  clear hr hl h32
  go_enter Try.func59, Try.ntmps59
  generalize hh0 : sd + 2870177450012600261#64 = h0 at *
  have hyc := hc
  have hyl := hm
  have hycm := hcm
  have hadd : IntKind.u64.wrap (nb h0 + (xs.length : Int)) = nb (h0 + BitVec.ofNat 64 xs.length) := by rw [← HLL.out, wrap_add64]
  go_wp2
  clear hadd
  go_loopw [5, 1] (fun h r wt => ∃ (h' : BitVec 64) (zs : List Byte) (A1 : Option Addr) (c1 : Nat), h = .int .u64 (nb h') ∧ r = .slice A1 zs.length c1 ∧ zs.length ≤ c1 ∧ c1 ≤ 9223372036854775807 ∧ zs.length ≤ 100000000000000 ∧ Hid (xaval (x8s h' zs) = xsum sd xs) ∧ Hid (Rd w A1 zs) ∧ Hid (FB w wt)) (fun _ r _ => slen r)
  case atStart => exact ⟨h0 + BitVec.ofNat 64 xs.length, _, _, _, rfl, rfl, hyc, hycm, hyl, HVAL.out, HRY.out, HFB.out⟩
  case round =>
    clear HVAL HRY hyc hyl hycm HFB
    obtain ⟨h', zs, A1, c1, rfl, rfl, hzc, hzm, hzl, HZ, HRZ, HFZ⟩ := hrel
    by_cases h8 : 8 ≤ zs.length
    · have hg8 : (8 : Int) ≤ zs.length := by omega
      have HN := Lib.hid (x8s_ge (h := h') h8)
      obtain ⟨A2, hcut, hcr, -⟩ := cut_lo A1 c1 zs 8 h8 hzc
      have HCR := Lib.hid (hcr w HRZ.out)
      replace hcut : ∀ W, (Instr.slice 22 (.slice A1 zs.length c1) (some (.int .i64 8)) none none).run Try.prog W = .ok (.slice A2 (zs.length - 8) (c1 - 8)) W := hcut
      clear hcr
      go_wp2_with fail
      refine (xh_word8 zs A1 _ c1 _ rfl hzc hzl (HFZ.out.rd HRZ.out) h8).mono ?_
      rintro e w3 ⟨rfl, hb⟩
      have HF3 := Lib.hid (HFZ.out.call hb)
      clear hb
      go_wp2_with fail
      refine (xh_Round0 _ _).mono ?_
      rintro e w4 ⟨rfl, rfl⟩
      go_wp2_with fail
      refine (bits_rot _ 27 _ rfl (by decide) _).mono ?_
      rintro e w4 ⟨rfl, rfl⟩
      go_wp2
      go_roundw
      case rel => exact ⟨xstep8 h' (xword (zs.take 8)), zs.drop 8, A2, c1 - 8, rfl, by rw [List.length_drop], by rw [List.length_drop]; omega, by omega, by rw [List.length_drop]; omega, Lib.hid (by rw [← HN.out]; exact HZ.out), HCR.out, HF3.out⟩
      case measure => simp [slen]; omega
    · have hg8 : ¬ (8 : Int) ≤ zs.length := by omega
      have HN := Lib.hid (show xaval (x4s h' zs) = xsum sd xs by have := HZ.out; rw [x8s_lt h8] at this; exact this)
      clear HZ
      by_cases h4 : 4 ≤ zs.length
      · have hg4 : (4 : Int) ≤ zs.length := by omega
        obtain ⟨A2, hcut, hcr, -⟩ := cut_lo A1 c1 zs 4 h4 hzc
        have HCR := Lib.hid (hcr w HRZ.out)
        replace hcut : ∀ W, (Instr.slice 22 (.slice A1 zs.length c1) (some (.int .i64 4)) none none).run Try.prog W = .ok (.slice A2 (zs.length - 4) (c1 - 4)) W := hcut
        have HM := Lib.hid (show xaval (x1s (xstep4 h' (xword (zs.take 4))) (zs.drop 4)) = xsum sd xs by have := HN.out; unfold x4s at this; rw [if_pos h4] at this; exact this)
        clear hcr
        go_wp2_with fail
        refine (xh_word4 zs A1 _ c1 _ rfl hzc hzl (HFZ.out.rd HRZ.out) h4).mono ?_
        rintro e w3 ⟨rfl, hb⟩
        have HF3 := Lib.hid (HFZ.out.call hb)
        clear hb
        go_wp2_with fail
        refine (bits_rot _ 23 _ rfl (by decide) _).mono ?_
        rintro e w4 ⟨rfl, rfl⟩
        have hs4 : nb (xrot (h' ^^^ xword (zs.take 4) * 11400714785074694791#64) 23 * 14029467366897019727#64 + 1609587929392839161#64) = nb (xstep4 h' (xword (zs.take 4))) := rfl
        generalize xstep4 h' (xword (zs.take 4)) = h1 at *
        have hdl : zs.length - 4 = (zs.drop 4).length := by rw [List.length_drop]
        have hdm : (zs.drop 4).length ≤ 100000000000000 := by rw [← hdl]; omega
        have HDL := Lib.hid hdl
        rw [hdl] at hcut
        generalize zs.drop 4 = us at *
        clear hdl
        go_wp2
        go_loop [5, 101] (fun s i => ∃ j : Nat, j ≤ us.length ∧ i = .int .i64 j ∧ s = .int .u64 (nb ((us.take j).foldl xstep1 h1))) (fun _ i => us.length - (intOf i).toNat)
        case atStart => exact ⟨0, by omega, rfl, rfl⟩
        case round =>
          obtain ⟨j, hj, rfl, rfl⟩ := hrel
          by_cases hlt : j < us.length
          · have hjx : (j : Int) < us.length := by omega
            obtain ⟨b0, o0, rfl, hb0, hcell⟩ := (HF3.out.rd HCR.out).form (by omega)
            have hcj := hcell j hlt
            have HS := Lib.hid (show (us.take (j + 1)).foldl xstep1 h1 = xstep1 ((us.take j).foldl xstep1 h1) us[j] by rw [List.take_succ_eq_append_getElem hlt, List.foldl_append]; rfl)
            clear hcell
            generalize us[j] = y at *
            generalize (us.take j).foldl xstep1 h1 = s at *
            unfold vb at hcj
            have hwy : IntKind.u64.wrap (nb y) = nb (y.setWidth 64) := by rw [nb_setWidth y (by omega), wrap_u64]; exact Int.emod_eq_of_lt (nb_nonneg _) (by have := nb_lt8 y; omega)
            go_wp2_with fail
            refine (bits_rot _ 11 _ rfl (by decide) _).mono ?_
            rintro e w4 ⟨rfl, rfl⟩
            go_wp2
            go_round
            case rel => exact ⟨j + 1, by omega, by go_num, by rw [HS.out]; rfl⟩
            case measure => simp [intOf]; omega
          · obtain rfl : j = us.length := by omega
            have hall : (us.take us.length).foldl xstep1 h1 = x1s h1 us := by rw [List.take_length]; rfl
            rw [hall]
            go_wp2_with fail
            refine (xh_Avalanche _ _).mono ?_
            rintro e w4 ⟨rfl, rfl⟩
            go_wp2
            go_ret
            exact ⟨by rw [← HM.out]; rfl, HF3.out⟩
      · have hg4 : ¬ (4 : Int) ≤ zs.length := by omega
        have HM := Lib.hid (show xaval (x1s h' zs) = xsum sd xs by have := HN.out; unfold x4s at this; rw [if_neg h4] at this; exact this)
        have HF3 := Lib.hid HFZ.out
        obtain ⟨h1, hh1⟩ : ∃ h1, h1 = h' := ⟨_, rfl⟩
        subst hh1
        obtain ⟨us, hus⟩ : ∃ us, us = zs := ⟨_, rfl⟩
        subst hus
        have HCR := Lib.hid HRZ.out
        have hdm := hzl
        go_wp2
        go_loop [5, 101] (fun s i => ∃ j : Nat, j ≤ us.length ∧ i = .int .i64 j ∧ s = .int .u64 (nb ((us.take j).foldl xstep1 h1))) (fun _ i => us.length - (intOf i).toNat)
        case atStart => exact ⟨0, by omega, rfl, rfl⟩
        case round =>
          obtain ⟨j, hj, rfl, rfl⟩ := hrel
          by_cases hlt : j < us.length
          · have hjx : (j : Int) < us.length := by omega
            obtain ⟨b0, o0, rfl, hb0, hcell⟩ := (HF3.out.rd HCR.out).form (by omega)
            have hcj := hcell j hlt
            have HS := Lib.hid (show (us.take (j + 1)).foldl xstep1 h1 = xstep1 ((us.take j).foldl xstep1 h1) us[j] by rw [List.take_succ_eq_append_getElem hlt, List.foldl_append]; rfl)
            clear hcell
            generalize us[j] = y at *
            generalize (us.take j).foldl xstep1 h1 = s at *
            unfold vb at hcj
            have hwy : IntKind.u64.wrap (nb y) = nb (y.setWidth 64) := by rw [nb_setWidth y (by omega), wrap_u64]; exact Int.emod_eq_of_lt (nb_nonneg _) (by have := nb_lt8 y; omega)
            go_wp2_with fail
            refine (bits_rot _ 11 _ rfl (by decide) _).mono ?_
            rintro e w4 ⟨rfl, rfl⟩
            go_wp2
            go_round
            case rel => exact ⟨j + 1, by omega, by go_num, by rw [HS.out]; rfl⟩
            case measure => simp [intOf]; omega
          · obtain rfl : j = us.length := by omega
            have hall : (us.take us.length).foldl xstep1 h1 = x1s h1 us := by rw [List.take_length]; rfl
            rw [hall]
            go_wp2_with fail
            refine (xh_Avalanche _ _).mono ?_
            rintro e w4 ⟨rfl, rfl⟩
            go_wp2
            go_ret
            exact ⟨by rw [← HM.out]; rfl, HF3.out⟩

theorem run_store64 (W : World) (g j : Nat) (x : Int) (u : Value) (hc : W.cell? ⟨g, j, none⟩ = some u) (hf : W.frozen? ⟨g, j, none⟩ = false) :
    (Instr.storeAt 48 (.pointer (some ⟨g, j, none⟩)) (.int .u64 x)).run Try.prog W = .ok () (W.setCell ⟨g, j, none⟩ (.int .u64 x)) := by
  simp [Instr.storeAt, go_sem, hc, hf, Try.underlying48]
theorem size_arr4 : (Try.prog.info? 95).map (·.size) = some 4 := by kernel_rfl
theorem lanes_size (l : List (BitVec 64)) : (lanes l).size = l.length := by simp [lanes]
theorem lanes_get (l : List (BitVec 64)) (j : Nat) (h : j < l.length) : (lanes l)[j]? = some (.int .u64 (nb (l.getD j 0#64))) := by
  simp [lanes, h]
theorem lanes_set (l : List (BitVec 64)) (j : Nat) (v : BitVec 64) : (lanes l).setIfInBounds j (.int .u64 (nb v)) = lanes (l.set j v) := by
  simp [lanes, List.map_set]
theorem run_index4 (l : List (BitVec 64)) (h4 : l.length = 4) (j : Nat) (hj : j < 4) (v : BitVec 64) (hv : l.getD j 0#64 = v) (W : World) : (Instr.index 95 (.agg (lanes l)) (.int .i64 (j : Int))).run Try.prog W = .ok (.int .u64 (nb v)) W := by
  have h1 := lanes_get l j (by rw [h4]; exact hj)
  rw [hv] at h1
  have h2 : (j : Int) < 4 := by omega
  obtain ⟨i, hi, hz, hsize, hby⟩ := info_parts (show (Try.prog.info? 48).map (fun i => (i.zero, i.size, i.bytes)) = some (some (.int .u64 0), 1, 8) by kernel_rfl)
  simp [Instr.index, run_underlying Try.underlying95, asIntOf, h2, part, sizeOf, typeInfo, hi, hsize, h1, go_sem]
  intro h
  omega
theorem SR.cell {w wr : World} {ga : Nat} {n R : BitVec 64} {m : Nat} {l : List (BitVec 64)} {ys : List Byte} {A : Option Addr} {c : Nat} (h : SR w wr ga n R m l ys A c) (j : Nat) (hj : j < 4) :
    ∀ W, FB wr W → W.cell? ⟨ga, j, none⟩ = some (.int .u64 (nb (l.getD j 0#64))) := fun W hW => by
  have h1 : W.heap[ga]? = _ := (hW.block ga (Array.getElem?_eq_some_iff.1 h.row).1).trans h.row
  rw [cell_of_row _ _ _ _ _ _ h1, lanes_get l j (by rw [h.len4]; exact hj)]
structure SI (w wr : World) (ga : Nat) (l : List (BitVec 64)) (ys : List Byte) (A : Option Addr) (c : Nat) : Prop where
  len4 : l.length = 4
  yc : ys.length ≤ c
  rd : Rd w A ys
  fb : FB w wr
  row : wr.heap[ga]? = some (.cells (lanes l) 95 (0, 0))
theorem SI.cell {w wr : World} {ga : Nat} {l : List (BitVec 64)} {ys : List Byte} {A : Option Addr} {c : Nat} (h : SI w wr ga l ys A c) (j : Nat) (hj : j < 4) :
    ∀ W, FB wr W → W.cell? ⟨ga, j, none⟩ = some (.int .u64 (nb (l.getD j 0#64))) := fun W hW => by
  have h1 : W.heap[ga]? = _ := (hW.block ga (Array.getElem?_eq_some_iff.1 h.row).1).trans h.row
  rw [cell_of_row _ _ _ _ _ _ h1, lanes_get l j (by rw [h.len4]; exact hj)]
theorem SI.fr {w wr : World} {ga : Nat} {l : List (BitVec 64)} {ys : List Byte} {A : Option Addr} {c : Nat} (h : SI w wr ga l ys A c) (j : Nat) :
    ∀ W, FB wr W → W.frozen? ⟨ga, j, none⟩ = false := fun W hW =>
  frozen_row _ ((hW.block ga (Array.getElem?_eq_some_iff.1 h.row).1).trans h.row) j
theorem SI.set {w wr W : World} {ga : Nat} {l : List (BitVec 64)} {ys : List Byte} {A : Option Addr} {c : Nat} (h : SI w wr ga l ys A c) (hW : FB wr W) (hga : w.heap.size ≤ ga) (j : Nat) (hj : j < 4) (v : BitVec 64)
    {A' : Option Addr} {c' : Nat} {ys' : List Byte} (hc : ys'.length ≤ c') (hr : Rd w A' ys') : SI w (W.setCell ⟨ga, j, none⟩ (.int .u64 (nb v))) ga (l.set j v) ys' A' c' := by
  have h1 : W.heap[ga]? = _ := (hW.block ga (Array.getElem?_eq_some_iff.1 h.row).1).trans h.row
  refine ⟨by rw [List.length_set]; exact h.len4, hc, hr, (h.fb.trans hW).set hga _, ?_⟩
  rw [heap_setCell_same _ ga j _ _ _ h1, lanes_set]

set_option maxRecDepth 100000 in
set_option maxHeartbeats 4000000 in
theorem xh_Sum_big (sd : BitVec 64) (xs : List Byte) (A : Option Addr) (n c : Nat) (w : World) (hn : n = xs.length) (hc : xs.length ≤ c) (hcm : c ≤ maxLen) (hm : xs.length ≤ 100000000000000) (hr : Rd w A xs) (h32 : 32 ≤ xs.length) :
    Calls Try.prog 59 #[.int .u64 (nb sd), .slice A n c] w fun e w' => e = .returned (.int .u64 (nb (xsum sd xs))) ∧ Below w.heap.size w w' := by
  subst hn
  have HR := Lib.hid hr
  have hl := len64 xs.length (by omega)
  have HLL := Lib.hid hl
  have HV := Lib.hid (show x32s (xstart sd) (BitVec.ofNat 64 xs.length) xs = xsum sd xs by unfold xsum; rw [if_pos h32])
  unfold maxLen at hcm
  have h32' : (32 : Int) ≤ xs.length := by omega
  clear hr h32 hl
  go_enter Try.func59, Try.ntmps59
  go_wp2
  clear h32'
  have hrow0 := heap_alloc_new w (.cells (lanes (xstart sd)) 95)
  have HROW := Lib.hid hrow0
  clear hrow0
  go_loopw [1] (fun r wr => ∃ (l : List (BitVec 64)) (ys : List Byte) (A1 : Option Addr) (c1 : Nat), r = .slice A1 ys.length c1 ∧ c1 ≤ 9223372036854775807 ∧ Hid (SR w wr w.heap.size (BitVec.ofNat 64 xs.length) (xsum sd xs) xs.length l ys A1 c1)) (fun r _ => slen r)
  case atStart => exact ⟨xstart sd, xs, A, c, rfl, hcm, HV.out, rfl, hc, Nat.le_refl _, HR.out, (FB.refl w).alloc _, HROW.out⟩
  case round =>
    clear HV HROW
    obtain ⟨l, ys, A1, c1, rfl, hc1, HS⟩ := hrel
    have hyl0 : ys.length ≤ 100000000000000 := by have := HS.out.yl; omega
    by_cases h32 : 32 ≤ ys.length
    · have hg : (32 : Int) ≤ ys.length := by omega
      have HN := Lib.hid (x32s_ge (l := l) (n := BitVec.ofNat 64 xs.length) h32)
      have hyc1 := HS.out.yc
      go_wp2
      clear hg
      go_loopw [1, 33] (fun r i wr => ∃ (j : Nat) (A2 : Option Addr) (c2 : Nat), j ≤ 4 ∧ i = .int .i64 j ∧ r = .slice A2 (ys.drop (8 * j)).length c2 ∧ c2 ≤ 9223372036854775807 ∧ Hid (SI w wr w.heap.size (xpart l ys j) (ys.drop (8 * j)) A2 c2)) (fun _ i _ => 4 - (intOf i).toNat)
      case atStart => exact ⟨0, A1, c1, by omega, rfl, rfl, hc1, HS.out.len4, hyc1, HS.out.rd, HS.out.fb, HS.out.row⟩
      case round =>
        obtain ⟨j, A2, c2, hj, rfl, rfl, hc2, HI⟩ := hrel
        by_cases hlt : j < 4
        · have hl8 : 8 ≤ (ys.drop (8 * j)).length := by rw [List.length_drop]; omega
          obtain ⟨A3, hcut, hcr, -⟩ := cut_lo A2 c2 (ys.drop (8 * j)) 8 hl8 HI.out.yc
          have HCR := Lib.hid (hcr w HI.out.rd)
          replace hcut : ∀ W, (Instr.slice 22 (.slice A2 (ys.drop (8 * j)).length c2) (some (.int .i64 8)) none none).run Try.prog W = .ok (.slice A3 ((ys.drop (8 * j)).length - 8) (c2 - 8)) W := hcut
          have HX := Lib.hid (show xpart l ys (j + 1) = (xpart l ys j).set j (xround ((xpart l ys j).getD j 0#64) (xword ((ys.drop (8 * j)).take 8))) from rfl)
          have HD := Lib.hid (show (ys.drop (8 * j)).drop 8 = ys.drop (8 * (j + 1)) by rw [List.drop_drop]; congr 1)
          have hlm : (ys.drop (8 * j)).length ≤ 100000000000000 := by rw [List.length_drop]; omega
          have HC := Lib.hid (HI.out.cell j hlt)
          have HFZ := Lib.hid (HI.out.fr j)
          clear hcr
          generalize (xpart l ys j).getD j 0#64 = v at *
          generalize hz : ys.drop (8 * j) = zs at *
          clear hz
          have hj4 : (j : Int) < 4 := by omega
          go_wp2_with fail
          obtain ⟨W0, hW0⟩ : ∃ W0 : World, W0 = wr := ⟨_, rfl⟩
          subst hW0
          refine region_schL (E := FB) 8 ((0, true) :: (1, true) :: (2, true) :: (3, true) :: (4, true) :: (5, false) :: (6, false) :: (7, true) :: []) (by kernel_rfl) FB.refl fb_trans (fun _ _ d _ _ h => by cases d <;> exact h) (by kernel_rfl) ?_
          intro ops hops0
          have hops := Lib.hid hops0
          clear hops0
          have HF : FB W0 W0.drew := (FB.refl _).drew
          generalize W0.drew = wF at *
          repeat (refine sch_take (o := ?_) (v := ?_) (a' := ?_) (at_of hops.out ?_) ?_ (fun W hW => ?_) ?_ ?_; rotate_left 3; (focus (simp only [List.getElem?_toArray, List.getElem?_cons_zero, List.getElem?_cons_succ]; rfl)); (focus (rw [hops.out]; rfl)); (focus (have q := HC.out W (HF.trans hW); go_simp; with_reducible rfl)); (focus (simp only [Act.put, List.setIfInBounds_toArray, List.set_cons_zero, List.set_cons_succ]; rfl)))
          (refine sch_call (o := ?_) (f := ?_) (args := ?_) (at_of hops.out ?_) ?_ ?_ ?_; rotate_left 3; (focus (simp only [List.getElem?_toArray, List.getElem?_cons_zero, List.getElem?_cons_succ]; rfl)); (focus (rw [hops.out]; rfl)); (focus (go_simp; constructor <;> with_reducible rfl)); (first | ((with_reducible refine (xh_word8 zs A2 _ c2 _ rfl HI.out.yc hlm (HF.rd (HI.out.fb.rd HI.out.rd)) hl8).mono ?_); rintro e w' ⟨rfl, hb⟩; refine ⟨_, rfl, hb, ?_⟩; intro a' ha'; simp only [Act.put, List.setIfInBounds_toArray, List.set_cons_zero, List.set_cons_succ] at ha'; subst ha'; replace HF := HF.call hb; clear hb)))
          (refine sch_call (o := ?_) (f := ?_) (args := ?_) (at_of hops.out ?_) ?_ ?_ ?_; rotate_left 3; (focus (simp only [List.getElem?_toArray, List.getElem?_cons_zero, List.getElem?_cons_succ]; rfl)); (focus (rw [hops.out]; rfl)); (focus (go_simp; constructor <;> with_reducible rfl)); (first | ((with_reducible refine (xh_Round _ _ _).mono ?_); rintro e w' ⟨rfl, hb0⟩; subst hb0; have hb := FB.refl w'; refine ⟨_, rfl, hb, ?_⟩; intro a' ha'; simp only [Act.put, List.setIfInBounds_toArray, List.set_cons_zero, List.set_cons_succ] at ha'; subst ha'; replace HF := HF.call hb; clear hb)))
          repeat (refine sch_take (o := ?_) (v := ?_) (a' := ?_) (at_of hops.out ?_) ?_ (fun W hW => ?_) ?_ ?_; rotate_left 3; (focus (simp only [List.getElem?_toArray, List.getElem?_cons_zero, List.getElem?_cons_succ]; rfl)); (focus (rw [hops.out]; rfl)); (focus (go_simp; with_reducible rfl)); (focus (simp only [Act.put, List.setIfInBounds_toArray, List.set_cons_zero, List.set_cons_succ]; rfl)))
          have hE : (Instr.storeAt 48 (.pointer (some ⟨w.heap.size, j, none⟩)) (.int .u64 (nb (xround v (xword (zs.take 8)))))).run Try.prog w' = .ok () (w'.setCell ⟨w.heap.size, j, none⟩ (.int .u64 (nb (xround v (xword (zs.take 8)))))) := run_store64 _ _ _ _ _ (HC.out _ HF) (HFZ.out _ HF)
          (refine schL_store (o := ?_) (at_of hops.out ?_) ?_ 48 (.tmp 43) (.tmp 42) ?_ _ _ ?_ ?_ hE ?_; rotate_left 1; (focus (simp only [List.getElem?_toArray, List.getElem?_cons_zero, List.getElem?_cons_succ]; rfl)); (focus (rw [hops.out]; rfl)); (focus rfl); (focus rfl); (focus rfl))
          have HI2 := Lib.hid (HI.out.set HF (Nat.le_refl _) j hlt (xround v (xword (zs.take 8))) (ys' := zs.drop 8) (A' := A3) (c' := c2 - 8) (by have := HI.out.yc; rw [List.length_drop]; omega) HCR.out)
          clear hops hE HF HC HFZ
          go_wp2
          go_roundw
          case rel => exact ⟨j + 1, A3, c2 - 8, by omega, by go_num, by rw [← HD.out, List.length_drop], by omega, by rw [← HD.out, HX.out]; exact HI2.out⟩
          case measure => simp [intOf]; omega
        · obtain rfl : j = 4 := by omega
          go_wp2
          go_roundw
          case rel => exact ⟨xpart l ys 4, ys.drop 32, A2, c2, rfl, hc2, by rw [← HN.out]; exact HS.out.val, HI.out.len4, HI.out.yc, by have := HS.out.yl; rw [List.length_drop]; omega, HI.out.rd, HI.out.fb, HI.out.row⟩
          case measure => simp [slen]; omega
    · have hg : ¬ (32 : Int) ≤ ys.length := by omega
      have HVAL := Lib.hid (show xaval (x8s (xout l + BitVec.ofNat 64 xs.length) ys) = xsum sd xs by have := HS.out.val; rw [x32s_lt h32] at this; exact this)
      have HC0 := Lib.hid (HS.out.cell 0 (by omega))
      have HC1 := Lib.hid (HS.out.cell 1 (by omega))
      have HC2 := Lib.hid (HS.out.cell 2 (by omega))
      have HC3 := Lib.hid (HS.out.cell 3 (by omega))
      generalize hq0 : l.getD 0 0#64 = l0 at HC0
      have HQ0 := Lib.hid hq0
      clear hq0
      generalize hq1 : l.getD 1 0#64 = l1 at HC1
      have HQ1 := Lib.hid hq1
      clear hq1
      generalize hq2 : l.getD 2 0#64 = l2 at HC2
      have HQ2 := Lib.hid hq2
      clear hq2
      generalize hq3 : l.getD 3 0#64 = l3 at HC3
      have HQ3 := Lib.hid hq3
      clear hq3
      go_wp2_with fail
      obtain ⟨W0, hW0⟩ : ∃ W0 : World, W0 = wr := ⟨_, rfl⟩
      subst hW0
      refine region_sch (E := FB) ((0, true) :: (1, true) :: (3, true) :: (4, true) :: (7, true) :: (8, true) :: (11, true) :: (12, true) :: (2, false) :: (5, false) :: (6, true) :: (9, false) :: (10, true) :: (13, false) :: (14, true) :: (15, true) :: []) (by kernel_rfl) FB.refl fb_trans (fun _ _ d _ _ h => by cases d <;> exact h) (by kernel_rfl) ?_
      intro ops hops0
      have hops := Lib.hid hops0
      clear hops0
      have HF : FB W0 W0.drew := (FB.refl _).drew
      generalize W0.drew = wF at *
      repeat (refine sch_take (o := ?_) (v := ?_) (a' := ?_) (at_of hops.out ?_) ?_ (fun W hW => ?_) ?_ ?_; rotate_left 3; (focus (simp only [List.getElem?_toArray, List.getElem?_cons_zero, List.getElem?_cons_succ]; rfl)); (focus (rw [hops.out]; rfl)); (focus (have q0 := HC0.out W (HF.trans hW); have q1 := HC1.out W (HF.trans hW); have q2 := HC2.out W (HF.trans hW); have q3 := HC3.out W (HF.trans hW); go_simp; with_reducible rfl)); (focus (simp only [Act.put, List.setIfInBounds_toArray, List.set_cons_zero, List.set_cons_succ]; rfl)))
      (refine sch_call (o := ?_) (f := ?_) (args := ?_) (at_of hops.out ?_) ?_ ?_ ?_; rotate_left 3; (focus (simp only [List.getElem?_toArray, List.getElem?_cons_zero, List.getElem?_cons_succ]; rfl)); (focus (rw [hops.out]; rfl)); (focus (go_simp; constructor <;> with_reducible rfl)); (first | ((with_reducible refine (bits_rot _ 1 1 rfl (by decide) _).mono ?_); rintro e w1 ⟨rfl, rfl⟩; refine ⟨_, rfl, FB.refl _, ?_⟩; intro a' ha'; simp only [Act.put, List.setIfInBounds_toArray, List.set_cons_zero, List.set_cons_succ] at ha'; subst ha')))
      (refine sch_call (o := ?_) (f := ?_) (args := ?_) (at_of hops.out ?_) ?_ ?_ ?_; rotate_left 3; (focus (simp only [List.getElem?_toArray, List.getElem?_cons_zero, List.getElem?_cons_succ]; rfl)); (focus (rw [hops.out]; rfl)); (focus (go_simp; constructor <;> with_reducible rfl)); (first | ((with_reducible refine (bits_rot _ 7 7 rfl (by decide) _).mono ?_); rintro e w1 ⟨rfl, rfl⟩; refine ⟨_, rfl, FB.refl _, ?_⟩; intro a' ha'; simp only [Act.put, List.setIfInBounds_toArray, List.set_cons_zero, List.set_cons_succ] at ha'; subst ha')))
      repeat (refine sch_take (o := ?_) (v := ?_) (a' := ?_) (at_of hops.out ?_) ?_ (fun W hW => ?_) ?_ ?_; rotate_left 3; (focus (simp only [List.getElem?_toArray, List.getElem?_cons_zero, List.getElem?_cons_succ]; rfl)); (focus (rw [hops.out]; rfl)); (focus (go_simp; with_reducible rfl)); (focus (simp only [Act.put, List.setIfInBounds_toArray, List.set_cons_zero, List.set_cons_succ]; rfl)))
      (refine sch_call (o := ?_) (f := ?_) (args := ?_) (at_of hops.out ?_) ?_ ?_ ?_; rotate_left 3; (focus (simp only [List.getElem?_toArray, List.getElem?_cons_zero, List.getElem?_cons_succ]; rfl)); (focus (rw [hops.out]; rfl)); (focus (go_simp; constructor <;> with_reducible rfl)); (first | ((with_reducible refine (bits_rot _ 12 12 rfl (by decide) _).mono ?_); rintro e w1 ⟨rfl, rfl⟩; refine ⟨_, rfl, FB.refl _, ?_⟩; intro a' ha'; simp only [Act.put, List.setIfInBounds_toArray, List.set_cons_zero, List.set_cons_succ] at ha'; subst ha')))
      repeat (refine sch_take (o := ?_) (v := ?_) (a' := ?_) (at_of hops.out ?_) ?_ (fun W hW => ?_) ?_ ?_; rotate_left 3; (focus (simp only [List.getElem?_toArray, List.getElem?_cons_zero, List.getElem?_cons_succ]; rfl)); (focus (rw [hops.out]; rfl)); (focus (go_simp; with_reducible rfl)); (focus (simp only [Act.put, List.setIfInBounds_toArray, List.set_cons_zero, List.set_cons_succ]; rfl)))
      (refine sch_call (o := ?_) (f := ?_) (args := ?_) (at_of hops.out ?_) ?_ ?_ ?_; rotate_left 3; (focus (simp only [List.getElem?_toArray, List.getElem?_cons_zero, List.getElem?_cons_succ]; rfl)); (focus (rw [hops.out]; rfl)); (focus (go_simp; constructor <;> with_reducible rfl)); (first | ((with_reducible refine (bits_rot _ 18 18 rfl (by decide) _).mono ?_); rintro e w1 ⟨rfl, rfl⟩; refine ⟨_, rfl, FB.refl _, ?_⟩; intro a' ha'; simp only [Act.put, List.setIfInBounds_toArray, List.set_cons_zero, List.set_cons_succ] at ha'; subst ha')))
      repeat (refine sch_take (o := ?_) (v := ?_) (a' := ?_) (at_of hops.out ?_) ?_ (fun W hW => ?_) ?_ ?_; rotate_left 3; (focus (simp only [List.getElem?_toArray, List.getElem?_cons_zero, List.getElem?_cons_succ]; rfl)); (focus (rw [hops.out]; rfl)); (focus (go_simp; with_reducible rfl)); (focus (simp only [Act.put, List.setIfInBounds_toArray, List.set_cons_zero, List.set_cons_succ]; rfl)))
      refine sch_done ?_
      have hx : xrot l0 1 + xrot l1 7 + xrot l2 12 + xrot l3 18 = xlanes l := by rw [← HQ0.out, ← HQ1.out, ← HQ2.out, ← HQ3.out]; rfl
      rw [hx]
      clear hops HC0 HC1 HC2 HC3 hx HQ0 HQ1 HQ2 HQ3
      have HW := Lib.hid ((HF.block _ (Array.getElem?_eq_some_iff.1 HS.out.row).1).trans HS.out.row)
      have HIZ := Lib.hid (show (Try.prog.info? 95).map (·.size) = some (lanes l).size by rw [lanes_size, HS.out.len4]; exact size_arr4)
      have HFB := Lib.hid (HS.out.fb.trans HF)
      have HRY := Lib.hid HS.out.rd
      have hyc := HS.out.yc
      have hyl := hyl0
      have hycm := hc1
      have HL4 := Lib.hid HS.out.len4
      clear HF
      go_wp2_with (refine wpList_load_row rfl _ _ rfl w.heap.size rfl _ (lanes l) (0, 0) _ HW.out Try.underlying95 rfl HIZ.out ?_)
      go_loop [5, 63] (fun h i => ∃ j : Nat, j ≤ 4 ∧ i = .int .i64 j ∧ h = .int .u64 (nb ((l.take j).foldl xmerge (xlanes l)))) (fun _ i => 4 - (intOf i).toNat)
      case atStart => exact ⟨0, by omega, rfl, rfl⟩
      case round =>
        obtain ⟨j, hj, rfl, rfl⟩ := hrel
        by_cases hlt : j < 4
        · have hix := lanes_get l j (by rw [HL4.out]; exact hlt)
          have hj4 : (j : Int) < 4 := by omega
          have hsz : (lanes l).size = 4 := by rw [lanes_size, HL4.out]
          have HX := Lib.hid (show (l.take (j + 1)).foldl xmerge (xlanes l) = xmerge ((l.take j).foldl xmerge (xlanes l)) (l.getD j 0#64) by
            rw [List.take_succ_eq_append_getElem (by rw [HL4.out]; exact hlt), List.foldl_append]
            simp [List.getD_eq_getElem?_getD, HL4.out, hlt])
          generalize hv : l.getD j 0#64 = v at HX
          have hix := run_index4 l HL4.out j hlt v hv
          clear hv
          generalize (l.take j).foldl xmerge (xlanes l) = hh at *
          go_wp2_with fail
          refine (xh_Merge _ _ _).mono ?_
          rintro e w4 ⟨rfl, rfl⟩
          go_wp2
          go_round
          case rel => exact ⟨j + 1, by omega, by go_num, by rw [HX.out]⟩
          case measure => simp [intOf]; omega
        · obtain rfl : j = 4 := by omega
          have hall : (l.take 4).foldl xmerge (xlanes l) = xout l := by rw [List.take_of_length_le (by rw [HL4.out]; omega)]; rfl
          rw [hall]
          clear hall HW HIZ HL4 HS
          generalize xout l = h0 at *
          have hadd : IntKind.u64.wrap (nb h0 + (xs.length : Int)) = nb (h0 + BitVec.ofNat 64 xs.length) := by rw [← HLL.out, wrap_add64]
          go_wp2
          clear hadd
          go_loopw [5, 1] (fun h r wt => ∃ (h' : BitVec 64) (zs : List Byte) (A1 : Option Addr) (c1 : Nat), h = .int .u64 (nb h') ∧ r = .slice A1 zs.length c1 ∧ zs.length ≤ c1 ∧ c1 ≤ 9223372036854775807 ∧ zs.length ≤ 100000000000000 ∧ Hid (xaval (x8s h' zs) = xsum sd xs) ∧ Hid (Rd w A1 zs) ∧ Hid (FB w wt)) (fun _ r _ => slen r)
          case atStart => exact ⟨h0 + BitVec.ofNat 64 xs.length, _, _, _, rfl, rfl, hyc, hycm, hyl, HVAL.out, HRY.out, HFB.out⟩
          case round =>
            clear HVAL HRY hyc hyl hycm HFB
            obtain ⟨h', zs, A1, c1, rfl, rfl, hzc, hzm, hzl, HZ, HRZ, HFZ⟩ := hrel
            by_cases h8 : 8 ≤ zs.length
            · have hg8 : (8 : Int) ≤ zs.length := by omega
              have HN := Lib.hid (x8s_ge (h := h') h8)
              obtain ⟨A2, hcut, hcr, -⟩ := cut_lo A1 c1 zs 8 h8 hzc
              have HCR := Lib.hid (hcr w HRZ.out)
              replace hcut : ∀ W, (Instr.slice 22 (.slice A1 zs.length c1) (some (.int .i64 8)) none none).run Try.prog W = .ok (.slice A2 (zs.length - 8) (c1 - 8)) W := hcut
              clear hcr
              go_wp2_with fail
              refine (xh_word8 zs A1 _ c1 _ rfl hzc hzl (HFZ.out.rd HRZ.out) h8).mono ?_
              rintro e w3 ⟨rfl, hb⟩
              have HF3 := Lib.hid (HFZ.out.call hb)
              clear hb
              go_wp2_with fail
              refine (xh_Round0 _ _).mono ?_
              rintro e w4 ⟨rfl, rfl⟩
              go_wp2_with fail
              refine (bits_rot _ 27 _ rfl (by decide) _).mono ?_
              rintro e w4 ⟨rfl, rfl⟩
              go_wp2
              go_roundw
              case rel => exact ⟨xstep8 h' (xword (zs.take 8)), zs.drop 8, A2, c1 - 8, rfl, by rw [List.length_drop], by rw [List.length_drop]; omega, by omega, by rw [List.length_drop]; omega, Lib.hid (by rw [← HN.out]; exact HZ.out), HCR.out, HF3.out⟩
              case measure => simp [slen]; omega
            · have hg8 : ¬ (8 : Int) ≤ zs.length := by omega
              have HN := Lib.hid (show xaval (x4s h' zs) = xsum sd xs by have := HZ.out; rw [x8s_lt h8] at this; exact this)
              clear HZ
              by_cases h4 : 4 ≤ zs.length
              · have hg4 : (4 : Int) ≤ zs.length := by omega
                obtain ⟨A2, hcut, hcr, -⟩ := cut_lo A1 c1 zs 4 h4 hzc
                have HCR := Lib.hid (hcr w HRZ.out)
                replace hcut : ∀ W, (Instr.slice 22 (.slice A1 zs.length c1) (some (.int .i64 4)) none none).run Try.prog W = .ok (.slice A2 (zs.length - 4) (c1 - 4)) W := hcut
                have HM := Lib.hid (show xaval (x1s (xstep4 h' (xword (zs.take 4))) (zs.drop 4)) = xsum sd xs by have := HN.out; unfold x4s at this; rw [if_pos h4] at this; exact this)
                clear hcr
                go_wp2_with fail
                refine (xh_word4 zs A1 _ c1 _ rfl hzc hzl (HFZ.out.rd HRZ.out) h4).mono ?_
                rintro e w3 ⟨rfl, hb⟩
                have HF3 := Lib.hid (HFZ.out.call hb)
                clear hb
                go_wp2_with fail
                refine (bits_rot _ 23 _ rfl (by decide) _).mono ?_
                rintro e w4 ⟨rfl, rfl⟩
                have hs4 : nb (xrot (h' ^^^ xword (zs.take 4) * 11400714785074694791#64) 23 * 14029467366897019727#64 + 1609587929392839161#64) = nb (xstep4 h' (xword (zs.take 4))) := rfl
                generalize xstep4 h' (xword (zs.take 4)) = h1 at *
                have hdl : zs.length - 4 = (zs.drop 4).length := by rw [List.length_drop]
                have hdm : (zs.drop 4).length ≤ 100000000000000 := by rw [← hdl]; omega
                have HDL := Lib.hid hdl
                rw [hdl] at hcut
                generalize zs.drop 4 = us at *
                clear hdl
                go_wp2
                go_loop [5, 101] (fun s i => ∃ j : Nat, j ≤ us.length ∧ i = .int .i64 j ∧ s = .int .u64 (nb ((us.take j).foldl xstep1 h1))) (fun _ i => us.length - (intOf i).toNat)
                case atStart => exact ⟨0, by omega, rfl, rfl⟩
                case round =>
                  obtain ⟨j, hj, rfl, rfl⟩ := hrel
                  by_cases hlt : j < us.length
                  · have hjx : (j : Int) < us.length := by omega
                    obtain ⟨b0, o0, rfl, hb0, hcell⟩ := (HF3.out.rd HCR.out).form (by omega)
                    have hcj := hcell j hlt
                    have HS := Lib.hid (show (us.take (j + 1)).foldl xstep1 h1 = xstep1 ((us.take j).foldl xstep1 h1) us[j] by rw [List.take_succ_eq_append_getElem hlt, List.foldl_append]; rfl)
                    clear hcell
                    generalize us[j] = y at *
                    generalize (us.take j).foldl xstep1 h1 = s at *
                    unfold vb at hcj
                    have hwy : IntKind.u64.wrap (nb y) = nb (y.setWidth 64) := by rw [nb_setWidth y (by omega), wrap_u64]; exact Int.emod_eq_of_lt (nb_nonneg _) (by have := nb_lt8 y; omega)
                    go_wp2_with fail
                    refine (bits_rot _ 11 _ rfl (by decide) _).mono ?_
                    rintro e w4 ⟨rfl, rfl⟩
                    go_wp2
                    go_round
                    case rel => exact ⟨j + 1, by omega, by go_num, by rw [HS.out]; rfl⟩
                    case measure => simp [intOf]; omega
                  · obtain rfl : j = us.length := by omega
                    have hall : (us.take us.length).foldl xstep1 h1 = x1s h1 us := by rw [List.take_length]; rfl
                    rw [hall]
                    go_wp2_with fail
                    refine (xh_Avalanche _ _).mono ?_
                    rintro e w4 ⟨rfl, rfl⟩
                    go_wp2
                    go_ret
                    exact ⟨by rw [← HM.out]; rfl, HF3.out⟩
              · have hg4 : ¬ (4 : Int) ≤ zs.length := by omega
                have HM := Lib.hid (show xaval (x1s h' zs) = xsum sd xs by have := HN.out; unfold x4s at this; rw [if_neg h4] at this; exact this)
                have HF3 := Lib.hid HFZ.out
                obtain ⟨h1, hh1⟩ : ∃ h1, h1 = h' := ⟨_, rfl⟩
                subst hh1
                obtain ⟨us, hus⟩ : ∃ us, us = zs := ⟨_, rfl⟩
                subst hus
                have HCR := Lib.hid HRZ.out
                have hdm := hzl
                go_wp2
                go_loop [5, 101] (fun s i => ∃ j : Nat, j ≤ us.length ∧ i = .int .i64 j ∧ s = .int .u64 (nb ((us.take j).foldl xstep1 h1))) (fun _ i => us.length - (intOf i).toNat)
                case atStart => exact ⟨0, by omega, rfl, rfl⟩
                case round =>
                  obtain ⟨j, hj, rfl, rfl⟩ := hrel
                  by_cases hlt : j < us.length
                  · have hjx : (j : Int) < us.length := by omega
                    obtain ⟨b0, o0, rfl, hb0, hcell⟩ := (HF3.out.rd HCR.out).form (by omega)
                    have hcj := hcell j hlt
                    have HS := Lib.hid (show (us.take (j + 1)).foldl xstep1 h1 = xstep1 ((us.take j).foldl xstep1 h1) us[j] by rw [List.take_succ_eq_append_getElem hlt, List.foldl_append]; rfl)
                    clear hcell
                    generalize us[j] = y at *
                    generalize (us.take j).foldl xstep1 h1 = s at *
                    unfold vb at hcj
                    have hwy : IntKind.u64.wrap (nb y) = nb (y.setWidth 64) := by rw [nb_setWidth y (by omega), wrap_u64]; exact Int.emod_eq_of_lt (nb_nonneg _) (by have := nb_lt8 y; omega)
                    go_wp2_with fail
                    refine (bits_rot _ 11 _ rfl (by decide) _).mono ?_
                    rintro e w4 ⟨rfl, rfl⟩
                    go_wp2
                    go_round
                    case rel => exact ⟨j + 1, by omega, by go_num, by rw [HS.out]; rfl⟩
                    case measure => simp [intOf]; omega
                  · obtain rfl : j = us.length := by omega
                    have hall : (us.take us.length).foldl xstep1 h1 = x1s h1 us := by rw [List.take_length]; rfl
                    rw [hall]
                    go_wp2_with fail
                    refine (xh_Avalanche _ _).mono ?_
                    rintro e w4 ⟨rfl, rfl⟩
                    go_wp2
                    go_ret
                    exact ⟨by rw [← HM.out]; rfl, HF3.out⟩

theorem xh_Sum (sd : BitVec 64) (xs : List Byte) (A : Option Addr) (n c : Nat) (w : World) (hn : n = xs.length) (hc : xs.length ≤ c) (hcm : c ≤ maxLen) (hm : xs.length ≤ 100000000000000) (hr : Rd w A xs) :
    Calls Try.prog 59 #[.int .u64 (nb sd), .slice A n c] w fun e w' => e = .returned (.int .u64 (nb (xsum sd xs))) ∧ Below w.heap.size w w' := by
  by_cases h : 32 ≤ xs.length
  · exact xh_Sum_big sd xs A n c w hn hc hcm hm hr h
  · exact xh_Sum_small sd xs A n c w hn hc hcm hm hr h
end Go.Proofs.Ytjhgnohofcahbaa
