/- The walks through package crc: each function once. -/
import Derived.Test.YtihljjfnjclefaaDoorCrcP
import Derived.Deep.WholeRow
set_option linter.unusedVariables false
set_option linter.unusedSimpArgs false
namespace Go.Proofs.YtihljjfnjclefaaDoor
open Go.ChangeShapes Go.WideShapes Go.ChangeAt Go.RowKit
attribute [local go_sem] nb_beq nb_bne nb_beq1 nb_mod8 nb_shr_8 nb_shr_1 bits_xor32 bits_and32 bits_xor8 bits_xor32l bits_and32l bits_not32 BitVec.setWidth_eq nb_nonneg nb_lt8

set_option maxRecDepth 100000 in
set_option maxHeartbeats 400000 in
theorem crc_On (T : Array Value) (t : Byte → BitVec 32) (s : BitVec 32) (xs : List Byte) (A : Option Addr) (c : Nat) (w : World) (hc : xs.length ≤ c) (hm : c ≤ maxLen) (hr : Rd w A xs) (hT : IsTab T t) :
    Calls Tryd.prog 83 #[.agg T, .int .u32 (nb s), .slice A xs.length c] w fun e w' => e = .returned (.int .u32 (nb (crcOn t s xs))) ∧ w.alloc (.cells T 102) = w' := by
  have HT := Lib.hid hT
  have HR := Lib.hid hr
  clear hT hr
  unfold maxLen at hm
  go_enter Tryd.func83, Tryd.ntmps83
  go_wp2
  go_loop [7, 9, 14] (fun st _ i => ∃ k : Nat, k ≤ xs.length ∧ i = .int .i64 k ∧ st = .int .u32 (nb ((xs.take k).foldl (crcStep t) (~~~ s)))) (fun _ _ i => xs.length - (intOf i).toNat)
  case atStart => exact ⟨0, by omega, rfl, by simp⟩
  case round =>
    obtain ⟨k, hk, rfl, rfl⟩ := hrel
    by_cases hlt : k < xs.length
    · obtain ⟨b, o, rfl, hb, hcell⟩ := HR.out.form (by omega)
      have hck := hcell k hlt
      unfold vb at hck
      clear hcell
      have hsn : List.foldl (crcStep t) (~~~s) (List.take (k + 1) xs) = crcStep t (List.foldl (crcStep t) (~~~s) (List.take k xs)) xs[k] := by
        rw [List.take_succ_eq_append_getElem hlt, List.foldl_append]; rfl
      have HS := Lib.hid hsn
      clear hsn
      generalize hst : List.foldl (crcStep t) (~~~s) (List.take k xs) = st at *
      have HST := Lib.hid hst
      clear hst
      generalize hx : xs[k] = x at *
      have HX := Lib.hid hx
      clear hx
      have ht := HT.out.2 (st.setWidth 8 ^^^ x)
      go_wp2
      go_round
      case rel => exact ⟨k + 1, by omega, by go_num, by rw [HS.out]; rfl⟩
      case measure => simp [intOf]; omega
    · go_wp2
      go_ret
      have : k = xs.length := by omega
      subst this
      exact ⟨by simp [crcOn], rfl⟩

def zeroTab : Array Value := Array.replicate 256 (.int .u32 0)
theorem zeroTab_size : zeroTab.size = 256 := by simp [zeroTab]
theorem zero_tab : (Tryd.prog.info? 102).map (fun i => (i.zero, i.size)) = some (some (.agg zeroTab), 256) := by kernel_rfl
/-- The first k cells hold their words. -/
def TabTo (C : Array Value) (k : Nat) : Prop := C.size = 256 ∧ (∀ v ∈ C.toList, v.oneCell' = true) ∧ ∀ j, j < k → C[j]? = some (.int .u32 (nb (crcWord j)))
theorem TabTo.zero : TabTo zeroTab 0 := ⟨zeroTab_size, by
  intro v hv
  simp only [zeroTab, Array.toList_replicate, List.mem_replicate] at hv
  rw [hv.2]; rfl, fun j hj => by omega⟩
theorem TabTo.set {C : Array Value} {k : Nat} (h : TabTo C k) (hk : k < 256) : TabTo (C.setIfInBounds k (.int .u32 (nb (crcWord k)))) (k + 1) := by
  obtain ⟨h1, h2, h3⟩ := h
  refine ⟨by simp [h1], ?_, fun j hj => ?_⟩
  · intro v hv
    rw [Array.toList_setIfInBounds] at hv
    rcases List.mem_or_eq_of_mem_set hv with hv | rfl
    · exact h2 v hv
    · rfl
  · rw [Array.getElem?_setIfInBounds]
    by_cases e : k = j
    · subst e; simp [h1, hk]
    · rw [if_neg e]; exact h3 j (by omega)
theorem TabTo.at {C : Array Value} {k : Nat} (h : TabTo C k) (j : Nat) (hj : j < 256) : ∃ v, C[j]? = some v := ⟨C[j]'(by rw [h.1]; exact hj), by simp [h.1, hj]⟩
theorem TabTo.tab {C : Array Value} (h : TabTo C 256) : IsTab C crcT := ⟨h.1, fun b => by
  have hb := b.isLt
  rw [show (nb b).toNat = b.toNat from by simp [nb]]
  exact h.2.2 _ hb⟩
theorem crcBits_succ (n : Nat) (x : BitVec 32) : crcBits (n + 1) x = crcBit (crcBits n x) := rfl
theorem ofNat32_nb (k : Nat) (h : k < 256) : nb (BitVec.ofNat 32 k) = (k : Int) := nb_ofNat k (by omega)

set_option maxRecDepth 100000 in
set_option maxHeartbeats 400000 in
theorem crc_Table (w : World) :
    Calls Tryd.prog 76 #[] w fun e w' => ∃ T, e = .returned (.agg T) ∧ TabTo T 256 ∧ Below w.heap.size w w' := by
  have hz := (zero_of_info zero_tab).1
  go_enter Tryd.func76, Tryd.ntmps76
  go_wp2
  clear hz
  go_loopw [1, 2, 3, 4] (fun _ _ _ i wr => ∃ k C, k ≤ 256 ∧ i = .int .i64 (k : Nat) ∧ wr = w.alloc (.cells C 102) ∧ TabTo C k) (fun _ _ _ i _ => 256 - (intOf i).toNat)
  case atStart => exact ⟨0, zeroTab, by omega, rfl, rfl, TabTo.zero⟩
  case round =>
    obtain ⟨k, C, hk, rfl, rfl, hC⟩ := hrel
    by_cases hlt : k < 256
    · obtain ⟨v, hv⟩ := hC.at k hlt
      have hset := hC.set hlt
      have HC := Lib.hid hset
      clear hC hset
      go_wp2
      go_loop [2, 3, 9] (fun x _ j => ∃ n : Nat, n ≤ 8 ∧ j = .int .i64 n ∧ x = .int .u32 (nb (crcBits n (BitVec.ofNat 32 k)))) (fun _ _ j => 8 - (intOf j).toNat)
      case atStart => exact ⟨0, by omega, rfl, by rw [show crcBits 0 (BitVec.ofNat 32 k) = BitVec.ofNat 32 k from rfl, ofNat32_nb k hlt]⟩
      case round =>
        obtain ⟨n, hn, rfl, rfl⟩ := hrel
        by_cases hln : n < 8
        · have hsucc := crcBits_succ n (BitVec.ofNat 32 k)
          have HS := Lib.hid hsucc
          clear hsucc
          generalize crcBits n (BitVec.ofNat 32 k) = x at *
          by_cases hb : x &&& 1#32 = 1#32
          · have hb1 : (x &&& 1#32 == 1#32) = true := by rw [hb]; rfl
            have HE : crcBit x = (x >>> 1) ^^^ 0x82f63b78#32 := by unfold crcBit; rw [if_pos hb]
            have HE := Lib.hid HE
            clear hb
            go_wp2
            go_round
            case rel => exact ⟨n + 1, by omega, by go_num, by rw [HS.out, HE.out]⟩
            case measure => simp [intOf]; omega
          · have hb1 : (x &&& 1#32 == 1#32) = false := beq_eq_false_iff_ne.2 hb
            have HE : crcBit x = x >>> 1 := by unfold crcBit; rw [if_neg hb]
            have HE := Lib.hid HE
            clear hb
            go_wp2
            go_round
            case rel => exact ⟨n + 1, by omega, by go_num, by rw [HS.out, HE.out]⟩
            case measure => simp [intOf]; omega
        · obtain rfl : n = 8 := by omega
          go_wp2
          go_roundw
          case rel => exact ⟨k + 1, _, by omega, by go_num, rfl, HC.out⟩
          case measure => simp [intOf]; omega
    · obtain rfl : k = 256 := by omega
      have hsz : (Tryd.prog.info? 102).map (·.size) = some C.size := by rw [hC.1]; exact (zero_of_info zero_tab).2
      have hl := run_loadAt_new (P := Tryd.prog) w 102 C 256 22 Tryd.underlying102 hsz
      have hs := run_storeAt_new (P := Tryd.prog) w 102 C C hsz rfl (by rw [← Array.all_toList]; exact List.all_eq_true.2 hC.2.1)
      have HC := Lib.hid hC
      have HZ := Lib.hid hsz
      clear hC hsz
      go_wp2_with (first | (refine wpList_load_by rfl _ _ rfl _ hl ?_) | (refine wpList_store_by rfl _ _ _ rfl _ hs ?_))
      exact bodyPost_ret (v := .agg C) (results_cell_row Tryd.results76 _ _ w.heap.size 102 C (0, 0) _ rfl (heap_alloc_last w _) Tryd.underlying102 rfl HZ.out) rfl ⟨C, rfl, HC.out, (Below.refl _ _).alloc (Nat.le_refl _) _⟩

/-- The sum of several, one behind the other. -/
def crcOns (t : Byte → BitVec 32) (ls : List (List Byte)) : BitVec 32 := ls.foldl (crcOn t) 0#32

theorem size_tab {T : Array Value} {t : Byte → BitVec 32} (h : IsTab T t) : (Tryd.prog.info? 102).map (·.size) = some T.size := by rw [h.1]; exact (zero_of_info zero_tab).2

set_option maxRecDepth 100000 in
set_option maxHeartbeats 1000000 in
theorem crc_on (T : Array Value) (t : Byte → BitVec 32) (ls : List (List Byte)) (A : Option Addr) (c : Nat) (w : World) (hc : ls.length ≤ c) (hm : c ≤ maxLen) (hr : RdL w A ls) (hT : IsTab T t) :
    Calls Tryd.prog 75 #[.agg T, .slice A ls.length c] w fun e w' => e = .returned (.int .u32 (nb (crcOns t ls))) ∧ Below w.heap.size w w' := by
  have HT := Lib.hid hT
  have HR := Lib.hid hr
  clear hT hr
  unfold maxLen at hm
  go_enter Tryd.func75, Tryd.ntmps75
  go_wp2
  go_loopw [4, 6, 9] (fun st _ i wr => ∃ k : Nat, k ≤ ls.length ∧ i = .int .i64 k ∧ st = .int .u32 (nb ((ls.take k).foldl (crcOn t) 0#32)) ∧ Hid (Below (w.heap.size + 1) (w.alloc (.cells T 102)) wr)) (fun _ _ i _ => ls.length - (intOf i).toNat)
  case atStart => exact ⟨0, by omega, rfl, by simp [nb_zero], Below.refl _ _⟩
  case round =>
    obtain ⟨k, hk, rfl, rfl, HB⟩ := hrel
    by_cases hlt : k < ls.length
    · have hbw : Below w.heap.size w wr := ((Below.refl _ w).alloc (Nat.le_refl _) _).trans (HB.out.mono (by omega))
      obtain ⟨b, o, A', c', rfl, hcell, hc', hm', hrd⟩ := (HR.out.below hbw) k hlt
      have HRD := Lib.hid hrd
      have HBW := Lib.hid hbw
      have hrow : wr.heap[w.heap.size]? = some (.cells T 102 (0, 0)) := (HB.out.block _ (by omega)).trans (heap_alloc_last _ _)
      clear hrd hbw
      have hsn : List.foldl (crcOn t) 0#32 (List.take (k + 1) ls) = crcOn t (List.foldl (crcOn t) 0#32 (List.take k ls)) ls[k] := by
        rw [List.take_succ_eq_append_getElem hlt, List.foldl_append]; rfl
      have HS := Lib.hid hsn
      clear hsn
      generalize List.foldl (crcOn t) 0#32 (List.take k ls) = st at *
      generalize ls[k] = x at *
      have HW := Lib.hid hrow
      clear hrow
      go_wp2_with (first | (refine wpList_load_row rfl _ _ rfl w.heap.size rfl _ T (0, 0) _ HW.out Tryd.underlying102 rfl (size_tab HT.out) ?_) | (go_at_call 83; refine (crc_On T t _ x _ _ _ hc' hm' HRD.out HT.out).mono ?_; rintro e w' ⟨rfl, rfl⟩))
      go_roundw
      case rel => exact ⟨k + 1, by omega, by go_num, by rw [HS.out], HB.out.alloc (by have := HB.out.size; simp at this; omega) _⟩
      case measure => simp [intOf]; omega
    · go_wp2
      go_ret
      have : k = ls.length := by omega
      subst this
      exact ⟨by simp [crcOns], ((Below.refl _ w).alloc (Nat.le_refl _) _).trans (HB.out.mono (by omega))⟩

set_option maxRecDepth 100000 in
set_option maxHeartbeats 400000 in
theorem crc_Parts (ls : List (List Byte)) (A : Option Addr) (c : Nat) (w : World) (hc : ls.length ≤ c) (hm : c ≤ maxLen) (hr : RdL w A ls) :
    Calls Tryd.prog 62 #[.slice A ls.length c] w fun e w' => e = .returned (.int .u32 (nb (crcOns crcT ls))) ∧ Below w.heap.size w w' := by
  have HR := Lib.hid hr
  clear hr
  go_enter Tryd.func62, Tryd.ntmps62
  go_wp2_with fail
  refine (crc_Table _).mono ?_
  rintro e w1 ⟨T, rfl, hT, hb⟩
  have HT := Lib.hid hT
  have HB := Lib.hid hb
  clear hT hb
  go_wp2_with fail
  refine (crc_on T crcT ls A c _ hc hm (HR.out.below HB.out) HT.out.tab).mono ?_
  rintro e w2 ⟨rfl, hb2⟩
  have HB2 := Lib.hid hb2
  clear hb2
  go_wp2
  go_ret
  exact ⟨rfl, below_trans HB.out HB.out.size HB2.out⟩

end Go.Proofs.YtihljjfnjclefaaDoor
