/- The walks through the reference of chapter 3, and the chapter's examples. -/
import Derived.Test.YtihljjfnjclefaaDoorCrcW
import Derived.Test.YtihljjfnjclefaaDoorKit
set_option linter.unusedVariables false
set_option linter.unusedSimpArgs false
namespace Go.Proofs.YtihljjfnjclefaaDoor
open Go.ChangeShapes Go.WideShapes Go.ChangeAt Go.RowKit
attribute [local go_sem] nb_beq nb_bne nb_beq1 nb_mod8 nb_mod2 nb_tmod2 nb_shr_8 nb_shr_1 bits_xor32 bits_and32 bits_xor8 bits_xor32l bits_and32l bits_not32 BitVec.setWidth_eq nb_nonneg nb_lt8

theorem info_tab : (Tryd.prog.info? 102).map (·.size) = some 256 := (zero_of_info zero_tab).2

theorem size_tab' {T : Array Value} (h : TabTo T 256) : (Tryd.prog.info? 102).map (·.size) = some T.toList.length := by rw [Array.length_toList, h.1]; exact info_tab
set_option maxRecDepth 100000 in
set_option maxHeartbeats 400000 in
theorem ref_On (T : Array Value) (t : Byte → BitVec 32) (s : BitVec 32) (xs : List Byte) (A : Option Addr) (c : Nat) (w : World) (hc : xs.length ≤ c) (hm : c ≤ maxLen) (hr : Rd w A xs) (hT : IsTab T t) :
    Calls Tryd.prog 81 #[.agg T, .int .u32 (nb s), .slice A xs.length c] w fun e w' => e = .returned (.int .u32 (nb (crcOn t s xs))) ∧ w.alloc (.cells T 102) = w' := by
  have HT := Lib.hid hT
  have HR := Lib.hid hr
  clear hT hr
  unfold maxLen at hm
  go_enter Tryd.func81, Tryd.ntmps81
  go_wp2
  go_loop [7, 8] (fun st i => ∃ k : Nat, k ≤ xs.length ∧ i = .int .i64 k ∧ st = .int .u32 (nb ((xs.take k).foldl (crcStep t) (~~~ s)))) (fun _ i => xs.length - (intOf i).toNat)
  case atStart => exact ⟨0, by omega, rfl, by simp⟩
  case round =>
    obtain ⟨k, hk, rfl, rfl⟩ := hrel
    by_cases hlt : k < xs.length
    · obtain ⟨b, o, rfl, hb, hcell⟩ := HR.out.form (by omega)
      have hck := hcell k hlt
      unfold vb at hck
      clear hcell
      have hsn : List.foldl (crcStep t) (~~~s) (List.take (k + 1) xs) = crcStep t (List.foldl (crcStep t) (~~~s) (List.take k xs)) xs[k] := by
        rw [List.take_succ_eq_append_getElem hlt, List.foldl_append]; rfl
      have HS := Lib.hid hsn
      clear hsn
      generalize hst : List.foldl (crcStep t) (~~~s) (List.take k xs) = st at *
      have HST := Lib.hid hst
      clear hst
      generalize hx : xs[k] = x at *
      have HX := Lib.hid hx
      clear hx
      have ht := HT.out.2 (st.setWidth 8 ^^^ x)
      go_wp2
      go_round
      case rel => exact ⟨k + 1, by omega, by go_num, by rw [HS.out]; rfl⟩
      case measure => simp [intOf]; omega
    · go_wp2
      go_ret
      have : k = xs.length := by omega
      subst this
      exact ⟨by simp [crcOn], rfl⟩

set_option maxRecDepth 100000 in
set_option maxHeartbeats 400000 in
theorem ref_Table (w : World) :
    Calls Tryd.prog 82 #[] w fun e w' => ∃ T, e = .returned (.agg T) ∧ TabTo T 256 ∧ Below w.heap.size w w' := by
  have hz := (zero_of_info zero_tab).1
  go_enter Tryd.func82, Tryd.ntmps82
  go_wp2
  clear hz
  go_loopw [2, 3, 4] (fun i _ _ wr => ∃ k C, k ≤ 256 ∧ i = .int .i64 (k : Nat) ∧ wr = (w.alloc (.cells zeroTab 102)).alloc (.cells C 102) ∧ TabTo C k) (fun i _ _ _ => 256 - (intOf i).toNat)
  case atStart => exact ⟨0, zeroTab, by omega, rfl, rfl, TabTo.zero⟩
  case round =>
    obtain ⟨k, C, hk, rfl, rfl, hC⟩ := hrel
    by_cases hlt : k < 256
    · obtain ⟨v, hv⟩ := hC.at k hlt
      have hset := hC.set hlt
      have HC := Lib.hid hset
      clear hC hset
      go_wp2
      go_loop [3, 4] (fun x j => ∃ n : Nat, n ≤ 8 ∧ j = .int .i64 n ∧ x = .int .u32 (nb (crcBits n (BitVec.ofNat 32 k)))) (fun _ j => 8 - (intOf j).toNat)
      case atStart => exact ⟨0, by omega, rfl, by rw [show crcBits 0 (BitVec.ofNat 32 k) = BitVec.ofNat 32 k from rfl, ofNat32_nb k hlt]⟩
      case round =>
        obtain ⟨n, hn, rfl, rfl⟩ := hrel
        by_cases hln : n < 8
        · have hsucc := crcBits_succ n (BitVec.ofNat 32 k)
          have HS := Lib.hid hsucc
          clear hsucc
          generalize crcBits n (BitVec.ofNat 32 k) = x at *
          by_cases hb : x &&& 1#32 = 1#32
          · have hb1 : (x &&& 1#32 == 1#32) = true := by rw [hb]; rfl
            have HE : crcBit x = (x >>> 1) ^^^ 0x82f63b78#32 := by unfold crcBit; rw [if_pos hb]
            have HE := Lib.hid HE
            clear hb
            go_wp2
            go_round
            case rel => exact ⟨n + 1, by omega, by go_num, by rw [HS.out, HE.out]⟩
            case measure => simp [intOf]; omega
          · have hb1 : (x &&& 1#32 == 1#32) = false := beq_eq_false_iff_ne.2 hb
            have HE : crcBit x = x >>> 1 := by unfold crcBit; rw [if_neg hb]
            have HE := Lib.hid HE
            clear hb
            go_wp2
            go_round
            case rel => exact ⟨n + 1, by omega, by go_num, by rw [HS.out, HE.out]⟩
            case measure => simp [intOf]; omega
        · obtain rfl : n = 8 := by omega
          go_wp2
          go_roundw
          case rel => exact ⟨k + 1, _, by omega, by go_num, rfl, HC.out⟩
          case measure => simp [intOf]; omega
    · obtain rfl : k = 256 := by omega
      have hsz : (Tryd.prog.info? 102).map (·.size) = some C.size := by rw [hC.1]; exact info_tab
      have hall : C.all (·.oneCell') = true := by rw [← Array.all_toList]; exact List.all_eq_true.2 hC.2.1
      have hl := run_loadAt_new (P := Tryd.prog) (w.alloc (.cells zeroTab 102)) 102 C 256 22 Tryd.underlying102 hsz
      rw [show (w.alloc (.cells zeroTab 102)).heap.size = w.heap.size + 1 from by simp] at hl
      have hs : (Instr.storeAt 102 (.pointer (some ⟨w.heap.size, 0, none⟩)) (.agg C)).run Tryd.prog ((w.alloc (.cells zeroTab 102)).alloc (.cells C 102)) = .ok () (((w.alloc (.cells zeroTab 102)).alloc (.cells C 102)).setRow w.heap.size C) := by
        simp only [Instr.storeAt, Instr.sureAddr, Sem.run_bind, Sem.run_pure, Result.andThen]
        exact run_storeVar_row _ _ _ _ zeroTab C (heap_alloc2_old _ _ _) hsz (by rw [zeroTab_size, hC.1]) hall
      have hg : (((w.alloc (.cells zeroTab 102)).alloc (.cells C 102)).setRow w.heap.size C).heap[w.heap.size]? = some (.cells C 102 (0, 0)) := setRow_heap _ _ zeroTab C _ _ (heap_alloc2_old _ _ _)
      have hbl : Below w.heap.size w (((w.alloc (.cells zeroTab 102)).alloc (.cells C 102)).setRow w.heap.size C) :=
        ⟨rfl, rfl, rfl, by simp [World.setRow]; omega, fun k hk => (setRow_other _ w.heap.size k C (by omega)).trans ((Below.heap_alloc _ _ k (by simp; omega)).trans (Below.heap_alloc _ _ k hk))⟩
      have HC := Lib.hid hC
      have HZ := Lib.hid hsz
      have HG := Lib.hid hg
      have HB := Lib.hid hbl
      clear hC hsz hall hg hbl
      generalize hW : ((w.alloc (.cells zeroTab 102)).alloc (.cells C 102)).setRow w.heap.size C = W at *
      clear hW
      go_wp2_with (first | (refine wpList_load_by rfl _ _ rfl _ hl ?_) | (refine wpList_store_by rfl _ _ _ rfl _ hs ?_))
      exact bodyPost_ret (v := .agg C) (results_cell_row Tryd.results82 _ _ w.heap.size 102 C (0, 0) _ rfl HG.out Tryd.underlying102 rfl HZ.out) rfl ⟨C, rfl, HC.out, HB.out⟩

set_option maxRecDepth 100000 in
set_option maxHeartbeats 400000 in
theorem ref_Sum (xs : List Byte) (A : Option Addr) (c : Nat) (w : World) (hc : xs.length ≤ c) (hm : c ≤ maxLen) (hr : Rd w A xs) :
    Calls Tryd.prog 71 #[.slice A xs.length c] w fun e w' => e = .returned (.int .u32 (nb (crcSum xs))) ∧ Below w.heap.size w w' := by
  have HR := Lib.hid hr
  clear hr
  go_enter Tryd.func71, Tryd.ntmps71
  go_wp2_with fail
  refine (ref_Table _).mono ?_
  rintro e w1 ⟨T, rfl, hT, hb⟩
  have HT := Lib.hid hT
  have HB := Lib.hid hb
  clear hT hb
  go_wp2_with fail
  rw [show (0 : Int) = nb 0#32 from nb_zero.symm]
  refine (ref_On T crcT _ xs A c _ hc hm (HR.out.below HB.out) HT.out.tab).mono ?_
  rintro e w2 ⟨rfl, rfl⟩
  go_wp2
  go_ret
  exact ⟨rfl, HB.out.alloc HB.out.size _⟩

end Go.Proofs.YtihljjfnjclefaaDoor
