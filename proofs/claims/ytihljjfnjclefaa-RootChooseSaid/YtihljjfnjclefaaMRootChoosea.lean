/- The walk through RootChoose. -/
import Derived.Test.YtihljjfnjclefaaMRta
import Derived.Test.YtihljjfnjclefaaMRtb
import Derived.Test.YtihljjfnjclefaaMRtc
import Derived.Test.YtihljjfnjclefaaMRtd
import Derived.Test.YtihljjfnjclefaaMRte
import Derived.Test.YtihljjfnjclefaaMRtf
import Derived.Test.YtihljjfnjclefaaMRtg
import Derived.Test.YtihljjfnjclefaaMRth
import Derived.Test.YtihljjfnjclefaaMRti
import Derived.Test.YtihljjfnjclefaaMRtj
import Derived.Test.YtihljjfnjclefaaMRtk
import Derived.Test.YtihljjfnjclefaaMRtl
set_option linter.unusedVariables false
set_option linter.unusedSimpArgs false
namespace Go.Proofs.Ytihljjfnjclefaa
open Go.ChangeShapes Go.WideShapes Go.ChangeAt Go.RowKit
attribute [local go_sem] nb_nonneg nb_lt8 nb_lt64
set_option maxRecDepth 100000

theorem FB.keep {w W : World} (h : FB w W) {g : Nat} {o : Obj} (hg : w.heap[g]? = some o) : W.heap[g]? = some o := (h.block _ (Array.getElem?_eq_some_iff.1 hg).1).trans hg
theorem setRow_keep {w w' : World} {g b : Nat} {cs : Array Value} {o : Obj} (hw : w' = w.setRow g cs) (h : w.heap[b]? = some o) (hne : b ≠ g) : w'.heap[b]? = some o := by rw [hw]; exact (setRow_other w g b cs hne).trans h
theorem rt_box2 (w : World) (a b : Rt) : let W := (w.alloc (.cells (rtCs a) 29)).alloc (.cells (rtCs b) 29)
    FB w W ∧ W.heap[w.heap.size]? = some (.cells (rtCs a) 29 (0, 0)) ∧ W.heap[w.heap.size + 1]? = some (.cells (rtCs b) 29 (0, 0)) := by
  have f1 := (FB.refl (w.alloc (.cells (rtCs a) 29))).alloc (.cells (rtCs b) 29)
  refine ⟨((FB.refl w).alloc _).alloc _, ?_, ?_⟩
  · rw [f1.block _ (by simp)]; exact heap_alloc_new _ _
  · have := heap_alloc_new (w.alloc (.cells (rtCs a) 29)) (.cells (rtCs b) 29)
    simpa using this
theorem rtCh_tt (a b : Rt) : rtCh a b true true = (if b.E.toNat ≤ a.E.toNat then a else b, true) := by
  unfold rtCh
  by_cases h : b.E.toNat ≤ a.E.toNat
  · rw [decide_eq_true h, if_pos h]; rfl
  · rw [decide_eq_false h, if_neg h]; rfl
theorem rtCh_tf (a b : Rt) : rtCh a b true false = (a, true) := rfl
theorem rtCh_ft (a b : Rt) : rtCh a b false true = (b, true) := rfl
theorem rtCh_ff (a b : Rt) : rtCh a b false false = (rt0, false) := rfl
theorem rt_bit (r : Rt) : bits .and .u64 (nb r.E) 1 = (rtSlot r : Int) := by
  have h := bits_and64 r.E 1#64 (by omega) (by omega)
  rw [show (1 : Int) = nb 1#64 from rfl, h]
  simp only [BitVec.setWidth_eq]
  unfold rtSlot nb
  rw [BitVec.toNat_and, show (1#64).toNat = 1 from rfl, Nat.and_one_is_mod]
set_option maxHeartbeats 3000000 in
theorem rootChoose_walk (a b : Rt) (w : World) : Calls Try.prog 6 #[rtV a, rtV b] w fun e w' => e = .returned (.bool true) ∧ Below w.heap.size w w' := by
  obtain ⟨hf, h1, h2⟩ := rt_box2 w a b
  obtain ⟨W1, hW1⟩ : ∃ W1 : World, W1 = (w.alloc (.cells (rtCs a) 29)).alloc (.cells (rtCs b) 29) := ⟨_, rfl⟩
  simp only [← hW1] at hf h1 h2
  have HF1 := Lib.hid hf
  have GA1 := Lib.hid h1
  have GB1 := Lib.hid h2
  have HW1 := Lib.hid hW1
  clear hf h1 h2 hW1
  unfold rtV
  go_enter Try.func6, Try.ntmps6
  go_upto_region 1 with fail
  rw [← HW1.out]
  clear HW1
  go_wp2_with fail
  refine (rt_lives _).mono ?_
  rintro e w2 ⟨rfl, hb⟩
  have HF2 := Lib.hid (HF1.out.trans hb)
  have GA2 := Lib.hid (hb.keep GA1.out)
  have GB2 := Lib.hid (hb.keep GB1.out)
  clear hb HF1 GA1 GB1
  generalize w.heap.size + 1 = gb at *
  generalize hga : w.heap.size = ga at *
  have HGA := Lib.hid hga
  clear hga
  have qa := prow9 GA2.out
  have qb := prow9 GB2.out
  have HEA : ∀ w, (binOp .eql 29 (.agg #[.int .u64 (nb a.E), .int .u64 (nb a.P), .int .u64 (nb a.T), .int .u64 (nb a.S), .int .u64 (nb a.L), .int .u64 (nb a.a), .int .u64 (nb a.b), .int .u64 (nb a.c), .int .u64 (nb a.d)]) (.agg #[.int .u64 (nb a.E), .int .u64 (nb a.P), .int .u64 (nb a.T), .int .u64 (nb a.S), .int .u64 (nb a.L), .int .u64 (nb a.a), .int .u64 (nb a.b), .int .u64 (nb a.c), .int .u64 (nb a.d)])).run Try.prog w = .ok (.bool true) w := fun w => by have h := rt_eql a a w; rw [rtEq_self] at h; exact h
  have HEB : ∀ w, (binOp .eql 29 (.agg #[.int .u64 (nb b.E), .int .u64 (nb b.P), .int .u64 (nb b.T), .int .u64 (nb b.S), .int .u64 (nb b.L), .int .u64 (nb b.a), .int .u64 (nb b.b), .int .u64 (nb b.c), .int .u64 (nb b.d)]) (.agg #[.int .u64 (nb b.E), .int .u64 (nb b.P), .int .u64 (nb b.T), .int .u64 (nb b.S), .int .u64 (nb b.L), .int .u64 (nb b.a), .int .u64 (nb b.b), .int .u64 (nb b.c), .int .u64 (nb b.d)])).run Try.prog w = .ok (.bool true) w := fun w => by have h := rt_eql b b w; rw [rtEq_self] at h; exact h
  have HE0 : ∀ w, (binOp .eql 29 (.agg #[.int .u64 (nb rt0.E), .int .u64 (nb rt0.P), .int .u64 (nb rt0.T), .int .u64 (nb rt0.S), .int .u64 (nb rt0.L), .int .u64 (nb rt0.a), .int .u64 (nb rt0.b), .int .u64 (nb rt0.c), .int .u64 (nb rt0.d)]) (.agg #[.int .u64 0, .int .u64 0, .int .u64 0, .int .u64 0, .int .u64 0, .int .u64 0, .int .u64 0, .int .u64 0, .int .u64 0])).run Try.prog w = .ok (.bool true) w := fun w => by have h := rt_eql rt0 rt0 w; rw [rtEq_self] at h; exact h
  have HEG : ∀ op x y xs ys w, (eqGuard op 29 x y (.agg xs) (.agg ys)).run Try.prog w = .ok () w := fun op x y xs ys w => rt_eqGuard op x y xs ys w
  by_cases hE : a.E = b.E
  · have hEb : (nb a.E == nb b.E) = true := by rw [hE]; simp
    have hres : rtCh a b true true = (a, true) := by rw [rtCh_tt, hE, if_pos (Nat.le_refl _)]
    have HRES := Lib.hid hres
    clear hE hres
    have hcc := rt_Choose a b true true w2
    rw [HRES.out] at hcc
    unfold rtV rtCs at hcc
    have HC := Lib.hid hcc
    clear hcc
    go_wp2_with fail
    refine HC.out.mono ?_
    rintro e v3 ⟨rfl, hb⟩
    obtain ⟨w3, hw⟩ : ∃ w3 : World, w3 = v3.alloc (.cells (rtCs a) 29) := ⟨_, rfl⟩
    have hbb : FB w2 w3 := by rw [hw]; exact hb.alloc _
    have HF3 := Lib.hid (HF2.out.trans hbb)
    have GA3 := Lib.hid (hbb.keep GA2.out)
    have GB3 := Lib.hid (hbb.keep GB2.out)
    have GR3_3 := Lib.hid (show w3.heap[v3.heap.size]? = some (.cells (rtCs a) 29 (0, 0)) from by rw [hw]; exact heap_alloc_new v3 _)
    have HW := Lib.hid (show v3.alloc (.cells #[.int .u64 (nb a.E), .int .u64 (nb a.P), .int .u64 (nb a.T), .int .u64 (nb a.S), .int .u64 (nb a.L), .int .u64 (nb a.a), .int .u64 (nb a.b), .int .u64 (nb a.c), .int .u64 (nb a.d)] 29) = w3 from hw.symm)
    clear hb hbb hw HC HF2 GA2 GB2 qa qb
    go_upto_region 5 with fail
    rw [HW.out]
    clear HW
    generalize v3.heap.size = g3 at *
    have qa := prow9 GA3.out
    have qb := prow9 GB3.out
    have qr := prow9 GR3_3.out
    have HE := Lib.hid HF3.out
    clear HE0 HEB hEb HRES
    go_wp2
    go_ret
    exact ⟨rfl, HE.out⟩
  · have hEb : (nb a.E == nb b.E) = false := by rw [nb_beq]; simpa using hE
    by_cases hl : a.E.toNat < b.E.toNat
    · have hr1 : rtCh a b true true = (b, true) := by rw [rtCh_tt, if_neg (by omega)]
      have hr2 : rtCh b a true true = (b, true) := by rw [rtCh_tt, if_pos (by omega)]
      have hgt : nb a.E < nb b.E := by unfold nb; omega
      have HR1 := Lib.hid hr1
      have HR2 := Lib.hid hr2
      clear hr1 hr2 hl hE
      have hcc := rt_Choose a b true true w2
      rw [HR1.out] at hcc
      unfold rtV rtCs at hcc
      have HC := Lib.hid hcc
      clear hcc
      go_wp2_with fail
      refine HC.out.mono ?_
      rintro e v3 ⟨rfl, hb⟩
      obtain ⟨w3, hw⟩ : ∃ w3 : World, w3 = v3.alloc (.cells (rtCs b) 29) := ⟨_, rfl⟩
      have hbb : FB w2 w3 := by rw [hw]; exact hb.alloc _
      have HF3 := Lib.hid (HF2.out.trans hbb)
      have GA3 := Lib.hid (hbb.keep GA2.out)
      have GB3 := Lib.hid (hbb.keep GB2.out)
      have GR3_3 := Lib.hid (show w3.heap[v3.heap.size]? = some (.cells (rtCs b) 29 (0, 0)) from by rw [hw]; exact heap_alloc_new v3 _)
      have HW := Lib.hid (show v3.alloc (.cells #[.int .u64 (nb b.E), .int .u64 (nb b.P), .int .u64 (nb b.T), .int .u64 (nb b.S), .int .u64 (nb b.L), .int .u64 (nb b.a), .int .u64 (nb b.b), .int .u64 (nb b.c), .int .u64 (nb b.d)] 29) = w3 from hw.symm)
      clear hb hbb hw HC HF2 GA2 GB2 qa qb
      go_upto_region 7 with fail
      rw [HW.out]
      clear HW
      generalize v3.heap.size = g3 at *
      have qa := prow9 GA3.out
      have qb := prow9 GB3.out
      have hcc := rt_Choose b a true true w3
      rw [HR2.out] at hcc
      unfold rtV rtCs at hcc
      have HC := Lib.hid hcc
      clear hcc
      go_wp2_with fail
      refine HC.out.mono ?_
      rintro e v4 ⟨rfl, hb⟩
      obtain ⟨w4, hw⟩ : ∃ w4 : World, w4 = v4.alloc (.cells (rtCs b) 29) := ⟨_, rfl⟩
      have hbb : FB w3 w4 := by rw [hw]; exact hb.alloc _
      have HF4 := Lib.hid (HF3.out.trans hbb)
      have GA4 := Lib.hid (hbb.keep GA3.out)
      have GB4 := Lib.hid (hbb.keep GB3.out)
      have GR3_4 := Lib.hid (hbb.keep GR3_3.out)
      have GR4_4 := Lib.hid (show w4.heap[v4.heap.size]? = some (.cells (rtCs b) 29 (0, 0)) from by rw [hw]; exact heap_alloc_new v4 _)
      have HW := Lib.hid (show v4.alloc (.cells #[.int .u64 (nb b.E), .int .u64 (nb b.P), .int .u64 (nb b.T), .int .u64 (nb b.S), .int .u64 (nb b.L), .int .u64 (nb b.a), .int .u64 (nb b.b), .int .u64 (nb b.c), .int .u64 (nb b.d)] 29) = w4 from hw.symm)
      clear hb hbb hw HC HF3 GA3 GB3 GR3_3 qa qb
      go_upto_region 8 with fail
      rw [HW.out]
      clear HW
      generalize v4.heap.size = g4 at *
      have qa := prow9 GA4.out
      have qb := prow9 GB4.out
      have hcc := rt_Choose a b true false w4
      rw [rtCh_tf] at hcc
      unfold rtV rtCs at hcc
      have HC := Lib.hid hcc
      clear hcc
      go_wp2_with fail
      refine HC.out.mono ?_
      rintro e v5 ⟨rfl, hb⟩
      obtain ⟨w5, hw⟩ : ∃ w5 : World, w5 = v5.alloc (.cells (rtCs a) 29) := ⟨_, rfl⟩
      have hbb : FB w4 w5 := by rw [hw]; exact hb.alloc _
      have HF5 := Lib.hid (HF4.out.trans hbb)
      have GA5 := Lib.hid (hbb.keep GA4.out)
      have GB5 := Lib.hid (hbb.keep GB4.out)
      have GR3_5 := Lib.hid (hbb.keep GR3_4.out)
      have GR4_5 := Lib.hid (hbb.keep GR4_4.out)
      have GR5_5 := Lib.hid (show w5.heap[v5.heap.size]? = some (.cells (rtCs a) 29 (0, 0)) from by rw [hw]; exact heap_alloc_new v5 _)
      have HW := Lib.hid (show v5.alloc (.cells #[.int .u64 (nb a.E), .int .u64 (nb a.P), .int .u64 (nb a.T), .int .u64 (nb a.S), .int .u64 (nb a.L), .int .u64 (nb a.a), .int .u64 (nb a.b), .int .u64 (nb a.c), .int .u64 (nb a.d)] 29) = w5 from hw.symm)
      clear hb hbb hw HC HF4 GA4 GB4 GR3_4 GR4_4 qa qb
      go_upto_region 9 with fail
      rw [HW.out]
      clear HW
      generalize v5.heap.size = g5 at *
      have qa := prow9 GA5.out
      have qb := prow9 GB5.out
      have hcc := rt_Choose a b false true w5
      rw [rtCh_ft] at hcc
      unfold rtV rtCs at hcc
      have HC := Lib.hid hcc
      clear hcc
      go_wp2_with fail
      refine HC.out.mono ?_
      rintro e v6 ⟨rfl, hb⟩
      obtain ⟨w6, hw⟩ : ∃ w6 : World, w6 = v6.alloc (.cells (rtCs b) 29) := ⟨_, rfl⟩
      have hbb : FB w5 w6 := by rw [hw]; exact hb.alloc _
      have HF6 := Lib.hid (HF5.out.trans hbb)
      have GA6 := Lib.hid (hbb.keep GA5.out)
      have GB6 := Lib.hid (hbb.keep GB5.out)
      have GR3_6 := Lib.hid (hbb.keep GR3_5.out)
      have GR4_6 := Lib.hid (hbb.keep GR4_5.out)
      have GR5_6 := Lib.hid (hbb.keep GR5_5.out)
      have GR6_6 := Lib.hid (show w6.heap[v6.heap.size]? = some (.cells (rtCs b) 29 (0, 0)) from by rw [hw]; exact heap_alloc_new v6 _)
      have HW := Lib.hid (show v6.alloc (.cells #[.int .u64 (nb b.E), .int .u64 (nb b.P), .int .u64 (nb b.T), .int .u64 (nb b.S), .int .u64 (nb b.L), .int .u64 (nb b.a), .int .u64 (nb b.b), .int .u64 (nb b.c), .int .u64 (nb b.d)] 29) = w6 from hw.symm)
      clear hb hbb hw HC HF5 GA5 GB5 GR3_5 GR4_5 GR5_5 qa qb
      go_upto_region 10 with fail
      rw [HW.out]
      clear HW
      generalize v6.heap.size = g6 at *
      have qa := prow9 GA6.out
      have qb := prow9 GB6.out
      have hcc := rt_Choose a b false false w6
      rw [rtCh_ff] at hcc
      unfold rtV rtCs at hcc
      have HC := Lib.hid hcc
      clear hcc
      go_wp2_with fail
      refine HC.out.mono ?_
      rintro e v7 ⟨rfl, hb⟩
      obtain ⟨w7, hw⟩ : ∃ w7 : World, w7 = v7.alloc (.cells (rtCs rt0) 29) := ⟨_, rfl⟩
      have hbb : FB w6 w7 := by rw [hw]; exact hb.alloc _
      have HF7 := Lib.hid (HF6.out.trans hbb)
      have GA7 := Lib.hid (hbb.keep GA6.out)
      have GB7 := Lib.hid (hbb.keep GB6.out)
      have GR3_7 := Lib.hid (hbb.keep GR3_6.out)
      have GR4_7 := Lib.hid (hbb.keep GR4_6.out)
      have GR5_7 := Lib.hid (hbb.keep GR5_6.out)
      have GR6_7 := Lib.hid (hbb.keep GR6_6.out)
      have GR7_7 := Lib.hid (show w7.heap[v7.heap.size]? = some (.cells (rtCs rt0) 29 (0, 0)) from by rw [hw]; exact heap_alloc_new v7 _)
      have HW := Lib.hid (show v7.alloc (.cells #[.int .u64 (nb rt0.E), .int .u64 (nb rt0.P), .int .u64 (nb rt0.T), .int .u64 (nb rt0.S), .int .u64 (nb rt0.L), .int .u64 (nb rt0.a), .int .u64 (nb rt0.b), .int .u64 (nb rt0.c), .int .u64 (nb rt0.d)] 29) = w7 from hw.symm)
      clear hb hbb hw HC HF6 GA6 GB6 GR3_6 GR4_6 GR5_6 GR6_6 qa qb
      go_upto_region 11 with fail
      rw [HW.out]
      clear HW
      generalize v7.heap.size = g7 at *
      have qa := prow9 GA7.out
      have qb := prow9 GB7.out
      have HLTA := Lib.hid (Array.getElem?_eq_some_iff.1 GA7.out).1
      have HLTB := Lib.hid (Array.getElem?_eq_some_iff.1 GB7.out).1
      have HLTR3_ := Lib.hid (Array.getElem?_eq_some_iff.1 GR3_7.out).1
      have HLTR4_ := Lib.hid (Array.getElem?_eq_some_iff.1 GR4_7.out).1
      have HLTR5_ := Lib.hid (Array.getElem?_eq_some_iff.1 GR5_7.out).1
      have HLTR6_ := Lib.hid (Array.getElem?_eq_some_iff.1 GR6_7.out).1
      have HLTR7_ := Lib.hid (Array.getElem?_eq_some_iff.1 GR7_7.out).1
      obtain ⟨w8, hw⟩ : ∃ w8 : World, w8 = w7.alloc (.cells (rtCs a) 29) := ⟨_, rfl⟩
      have hbb : FB w7 w8 := by rw [hw]; exact (FB.refl _).alloc _
      have HF8 := Lib.hid (HF7.out.trans hbb)
      have GA8 := Lib.hid (hbb.keep GA7.out)
      have GB8 := Lib.hid (hbb.keep GB7.out)
      have GR3_8 := Lib.hid (hbb.keep GR3_7.out)
      have GR4_8 := Lib.hid (hbb.keep GR4_7.out)
      have GR5_8 := Lib.hid (hbb.keep GR5_7.out)
      have GR6_8 := Lib.hid (hbb.keep GR6_7.out)
      have GR7_8 := Lib.hid (hbb.keep GR7_7.out)
      have GW8 := Lib.hid (show w8.heap[w7.heap.size]? = some (.cells (rtCs a) 29 (0, 0)) from by rw [hw]; exact heap_alloc_new w7 _)
      have HW := Lib.hid (show w7.alloc (.cells #[.int .u64 (nb a.E), .int .u64 (nb a.P), .int .u64 (nb a.T), .int .u64 (nb a.S), .int .u64 (nb a.L), .int .u64 (nb a.a), .int .u64 (nb a.b), .int .u64 (nb a.c), .int .u64 (nb a.d)] 29) = w8 from hw.symm)
      have HLE := Lib.hid (show ga ≤ w7.heap.size from by have := HF7.out.le; have := HGA.out; omega)
      clear hbb hw HF7 GA7 GB7 GR3_7 GR4_7 GR5_7 GR6_7 GR7_7
      go_upto_region 12 with fail
      rw [HW.out]
      clear HW qa qb
      generalize w7.heap.size = g8 at *
      have qa := prow9 GA8.out
      have qb := prow9 GB8.out
      have hst := rt_store a b GW8.out
      unfold rtV rtCs at hst
      obtain ⟨w9, hw⟩ : ∃ w9 : World, w9 = w8.setRow g8 (rtCs b) := ⟨_, rfl⟩
      have hst2 : (Instr.storeAt 29 (.pointer (some ⟨g8, 0, none⟩)) (.agg #[.int .u64 (nb b.E), .int .u64 (nb b.P), .int .u64 (nb b.T), .int .u64 (nb b.S), .int .u64 (nb b.L), .int .u64 (nb b.a), .int .u64 (nb b.b), .int .u64 (nb b.c), .int .u64 (nb b.d)])).run Try.prog w8 = .ok () w9 := by rw [hw]; exact hst
      have HF9 := Lib.hid (show FB w w9 from by rw [hw]; exact HF8.out.setRow (by rw [HGA.out]; exact HLE.out) _)
      have GW9 := Lib.hid (show w9.heap[g8]? = some (.cells (rtCs b) 29 (0, 0)) from by rw [hw]; exact setRow_heap _ _ _ (rtCs b) _ _ GW8.out)
      have GA9 := Lib.hid (setRow_keep hw GA8.out (by have := (HLTA.out); omega))
      have GB9 := Lib.hid (setRow_keep hw GB8.out (by have := (HLTB.out); omega))
      have GR3_9 := Lib.hid (setRow_keep hw GR3_8.out (by have := (HLTR3_.out); omega))
      have GR4_9 := Lib.hid (setRow_keep hw GR4_8.out (by have := (HLTR4_.out); omega))
      have GR5_9 := Lib.hid (setRow_keep hw GR5_8.out (by have := (HLTR5_.out); omega))
      have GR6_9 := Lib.hid (setRow_keep hw GR6_8.out (by have := (HLTR6_.out); omega))
      have GR7_9 := Lib.hid (setRow_keep hw GR7_8.out (by have := (HLTR7_.out); omega))
      clear hst hw HF8 GA8 GB8 GR3_8 GR4_8 GR5_8 GR6_8 GR7_8 GW8
      go_upto_region 14 with (refine wpList_store_by rfl _ _ _ rfl _ hst2 ?_)
      clear hst2 qa qb
      obtain ⟨W0, hW0⟩ : ∃ W0 : World, W0 = w9 := ⟨_, rfl⟩
      rw [← hW0]
      refine region_sch (E := FB) ((0, true) :: (1, true) :: (2, true) :: (3, true) :: (4, true) :: (5, true) :: (6, true) :: (7, true) :: (8, true) :: (9, true) :: (10, true) :: (11, true) :: (12, true) :: (13, true) :: (14, true) :: (15, true) :: (16, true) :: (17, true) :: (18, true) :: (19, true) :: (20, true) :: (21, true) :: (22, true) :: (23, true) :: (24, true) :: (25, true) :: (26, true) :: (27, true) :: (28, true) :: (29, true) :: (30, true) :: (31, true) :: (32, true) :: (33, true) :: (34, true) :: (35, true) :: (36, true) :: (37, true) :: (38, true) :: (39, true) :: (40, true) :: (42, true) :: (43, true) :: (44, true) :: (45, true) :: (41, false) :: (46, true) :: (47, true) :: (48, true) :: []) (by kernel_rfl) FB.refl fb_trans (fun _ _ d _ _ h => by cases d <;> exact h) (by kernel_rfl) ?_
      intro ops hops0
      have hops := Lib.hid hops0
      clear hops0
      have HF : FB W0 W0.drew := (FB.refl _).drew
      generalize W0.drew = wF at *
      have HFq := Lib.hid (show FB w9 wF from by rw [← hW0]; exact HF)
      clear hW0 HF
      have KA := Lib.hid (HFq.out.keep GA9.out)
      have KB := Lib.hid (HFq.out.keep GB9.out)
      have KR3_ := Lib.hid (HFq.out.keep GR3_9.out)
      have KR4_ := Lib.hid (HFq.out.keep GR4_9.out)
      have KR5_ := Lib.hid (HFq.out.keep GR5_9.out)
      have KR6_ := Lib.hid (HFq.out.keep GR6_9.out)
      have KR7_ := Lib.hid (HFq.out.keep GR7_9.out)
      have KW := Lib.hid (HFq.out.keep GW9.out)
      have HF := FB.refl wF
      have hbt := rt_bit a
      have hws : IntKind.i64.wrap (rtSlot a : Int) = (rtSlot a : Int) := by rw [IntKind.wrap_i64]; have := rtSlot_lt a; omega
      repeat (refine sch_take (o := ?_) (v := ?_) (a' := ?_) (at_of hops.out ?_) ?_ (fun W hW => ?_) ?_ ?_; rotate_left 3; (focus (simp only [List.getElem?_toArray, List.getElem?_cons_zero, List.getElem?_cons_succ]; rfl)); (focus (rw [hops.out]; rfl)); (focus (have uA := prow9 (hW.keep KA.out); have uB := prow9 (hW.keep KB.out); have uR3_ := prow9 (hW.keep KR3_.out); have uR4_ := prow9 (hW.keep KR4_.out); have uR5_ := prow9 (hW.keep KR5_.out); have uR6_ := prow9 (hW.keep KR6_.out); have uR7_ := prow9 (hW.keep KR7_.out); have uW := prow9 (hW.keep KW.out); go_simp; with_reducible rfl)); (focus (simp only [Act.put, List.setIfInBounds_toArray, List.set_cons_zero, List.set_cons_succ]; rfl)))
      (refine sch_call (o := ?_) (f := ?_) (args := ?_) (at_of hops.out ?_) ?_ ?_ ?_; rotate_left 3; (focus (simp only [List.getElem?_toArray, List.getElem?_cons_zero, List.getElem?_cons_succ]; rfl)); (focus (rw [hops.out]; rfl)); (focus (go_simp; constructor <;> with_reducible rfl)); (first | ((with_reducible refine (rt_SlotU a _).mono ?_); rintro e wz ⟨rfl, hb⟩; refine ⟨_, rfl, hb, ?_⟩; intro a' ha'; simp only [Act.put, List.setIfInBounds_toArray, List.set_cons_zero, List.set_cons_succ] at ha'; subst ha'; replace HF := HF.call hb; clear hb)))
      repeat (refine sch_take (o := ?_) (v := ?_) (a' := ?_) (at_of hops.out ?_) ?_ (fun W hW => ?_) ?_ ?_; rotate_left 3; (focus (simp only [List.getElem?_toArray, List.getElem?_cons_zero, List.getElem?_cons_succ]; rfl)); (focus (rw [hops.out]; rfl)); (focus (go_simp; with_reducible rfl)); (focus (simp only [Act.put, List.setIfInBounds_toArray, List.set_cons_zero, List.set_cons_succ]; rfl)))
      refine sch_done ?_
      have HE := Lib.hid ((HF9.out.trans HFq.out).trans HF)
      clear hops HF hbt hws HEA HEB HE0 HEG
      go_wp2
      go_ret
      exact ⟨rfl, HE.out⟩
    · have hl2 : b.E.toNat < a.E.toNat := by have : a.E.toNat ≠ b.E.toNat := fun e => hE (BitVec.eq_of_toNat_eq e); omega
      have hr1 : rtCh a b true true = (a, true) := by rw [rtCh_tt, if_pos (by omega)]
      have hr2 : rtCh b a true true = (a, true) := by rw [rtCh_tt, if_neg (by omega)]
      have hgt : ¬ nb a.E < nb b.E := by unfold nb; omega
      have HR1 := Lib.hid hr1
      have HR2 := Lib.hid hr2
      clear hr1 hr2 hl hE hl2
      have hcc := rt_Choose a b true true w2
      rw [HR1.out] at hcc
      unfold rtV rtCs at hcc
      have HC := Lib.hid hcc
      clear hcc
      go_wp2_with fail
      refine HC.out.mono ?_
      rintro e v3 ⟨rfl, hb⟩
      obtain ⟨w3, hw⟩ : ∃ w3 : World, w3 = v3.alloc (.cells (rtCs a) 29) := ⟨_, rfl⟩
      have hbb : FB w2 w3 := by rw [hw]; exact hb.alloc _
      have HF3 := Lib.hid (HF2.out.trans hbb)
      have GA3 := Lib.hid (hbb.keep GA2.out)
      have GB3 := Lib.hid (hbb.keep GB2.out)
      have GR3_3 := Lib.hid (show w3.heap[v3.heap.size]? = some (.cells (rtCs a) 29 (0, 0)) from by rw [hw]; exact heap_alloc_new v3 _)
      have HW := Lib.hid (show v3.alloc (.cells #[.int .u64 (nb a.E), .int .u64 (nb a.P), .int .u64 (nb a.T), .int .u64 (nb a.S), .int .u64 (nb a.L), .int .u64 (nb a.a), .int .u64 (nb a.b), .int .u64 (nb a.c), .int .u64 (nb a.d)] 29) = w3 from hw.symm)
      clear hb hbb hw HC HF2 GA2 GB2 qa qb
      go_upto_region 7 with fail
      rw [HW.out]
      clear HW
      generalize v3.heap.size = g3 at *
      have qa := prow9 GA3.out
      have qb := prow9 GB3.out
      have hcc := rt_Choose b a true true w3
      rw [HR2.out] at hcc
      unfold rtV rtCs at hcc
      have HC := Lib.hid hcc
      clear hcc
      go_wp2_with fail
      refine HC.out.mono ?_
      rintro e v4 ⟨rfl, hb⟩
      obtain ⟨w4, hw⟩ : ∃ w4 : World, w4 = v4.alloc (.cells (rtCs a) 29) := ⟨_, rfl⟩
      have hbb : FB w3 w4 := by rw [hw]; exact hb.alloc _
      have HF4 := Lib.hid (HF3.out.trans hbb)
      have GA4 := Lib.hid (hbb.keep GA3.out)
      have GB4 := Lib.hid (hbb.keep GB3.out)
      have GR3_4 := Lib.hid (hbb.keep GR3_3.out)
      have GR4_4 := Lib.hid (show w4.heap[v4.heap.size]? = some (.cells (rtCs a) 29 (0, 0)) from by rw [hw]; exact heap_alloc_new v4 _)
      have HW := Lib.hid (show v4.alloc (.cells #[.int .u64 (nb a.E), .int .u64 (nb a.P), .int .u64 (nb a.T), .int .u64 (nb a.S), .int .u64 (nb a.L), .int .u64 (nb a.a), .int .u64 (nb a.b), .int .u64 (nb a.c), .int .u64 (nb a.d)] 29) = w4 from hw.symm)
      clear hb hbb hw HC HF3 GA3 GB3 GR3_3 qa qb
      go_upto_region 8 with fail
      rw [HW.out]
      clear HW
      generalize v4.heap.size = g4 at *
      have qa := prow9 GA4.out
      have qb := prow9 GB4.out
      have hcc := rt_Choose a b true false w4
      rw [rtCh_tf] at hcc
      unfold rtV rtCs at hcc
      have HC := Lib.hid hcc
      clear hcc
      go_wp2_with fail
      refine HC.out.mono ?_
      rintro e v5 ⟨rfl, hb⟩
      obtain ⟨w5, hw⟩ : ∃ w5 : World, w5 = v5.alloc (.cells (rtCs a) 29) := ⟨_, rfl⟩
      have hbb : FB w4 w5 := by rw [hw]; exact hb.alloc _
      have HF5 := Lib.hid (HF4.out.trans hbb)
      have GA5 := Lib.hid (hbb.keep GA4.out)
      have GB5 := Lib.hid (hbb.keep GB4.out)
      have GR3_5 := Lib.hid (hbb.keep GR3_4.out)
      have GR4_5 := Lib.hid (hbb.keep GR4_4.out)
      have GR5_5 := Lib.hid (show w5.heap[v5.heap.size]? = some (.cells (rtCs a) 29 (0, 0)) from by rw [hw]; exact heap_alloc_new v5 _)
      have HW := Lib.hid (show v5.alloc (.cells #[.int .u64 (nb a.E), .int .u64 (nb a.P), .int .u64 (nb a.T), .int .u64 (nb a.S), .int .u64 (nb a.L), .int .u64 (nb a.a), .int .u64 (nb a.b), .int .u64 (nb a.c), .int .u64 (nb a.d)] 29) = w5 from hw.symm)
      clear hb hbb hw HC HF4 GA4 GB4 GR3_4 GR4_4 qa qb
      go_upto_region 9 with fail
      rw [HW.out]
      clear HW
      generalize v5.heap.size = g5 at *
      have qa := prow9 GA5.out
      have qb := prow9 GB5.out
      have hcc := rt_Choose a b false true w5
      rw [rtCh_ft] at hcc
      unfold rtV rtCs at hcc
      have HC := Lib.hid hcc
      clear hcc
      go_wp2_with fail
      refine HC.out.mono ?_
      rintro e v6 ⟨rfl, hb⟩
      obtain ⟨w6, hw⟩ : ∃ w6 : World, w6 = v6.alloc (.cells (rtCs b) 29) := ⟨_, rfl⟩
      have hbb : FB w5 w6 := by rw [hw]; exact hb.alloc _
      have HF6 := Lib.hid (HF5.out.trans hbb)
      have GA6 := Lib.hid (hbb.keep GA5.out)
      have GB6 := Lib.hid (hbb.keep GB5.out)
      have GR3_6 := Lib.hid (hbb.keep GR3_5.out)
      have GR4_6 := Lib.hid (hbb.keep GR4_5.out)
      have GR5_6 := Lib.hid (hbb.keep GR5_5.out)
      have GR6_6 := Lib.hid (show w6.heap[v6.heap.size]? = some (.cells (rtCs b) 29 (0, 0)) from by rw [hw]; exact heap_alloc_new v6 _)
      have HW := Lib.hid (show v6.alloc (.cells #[.int .u64 (nb b.E), .int .u64 (nb b.P), .int .u64 (nb b.T), .int .u64 (nb b.S), .int .u64 (nb b.L), .int .u64 (nb b.a), .int .u64 (nb b.b), .int .u64 (nb b.c), .int .u64 (nb b.d)] 29) = w6 from hw.symm)
      clear hb hbb hw HC HF5 GA5 GB5 GR3_5 GR4_5 GR5_5 qa qb
      go_upto_region 10 with fail
      rw [HW.out]
      clear HW
      generalize v6.heap.size = g6 at *
      have qa := prow9 GA6.out
      have qb := prow9 GB6.out
      have hcc := rt_Choose a b false false w6
      rw [rtCh_ff] at hcc
      unfold rtV rtCs at hcc
      have HC := Lib.hid hcc
      clear hcc
      go_wp2_with fail
      refine HC.out.mono ?_
      rintro e v7 ⟨rfl, hb⟩
      obtain ⟨w7, hw⟩ : ∃ w7 : World, w7 = v7.alloc (.cells (rtCs rt0) 29) := ⟨_, rfl⟩
      have hbb : FB w6 w7 := by rw [hw]; exact hb.alloc _
      have HF7 := Lib.hid (HF6.out.trans hbb)
      have GA7 := Lib.hid (hbb.keep GA6.out)
      have GB7 := Lib.hid (hbb.keep GB6.out)
      have GR3_7 := Lib.hid (hbb.keep GR3_6.out)
      have GR4_7 := Lib.hid (hbb.keep GR4_6.out)
      have GR5_7 := Lib.hid (hbb.keep GR5_6.out)
      have GR6_7 := Lib.hid (hbb.keep GR6_6.out)
      have GR7_7 := Lib.hid (show w7.heap[v7.heap.size]? = some (.cells (rtCs rt0) 29 (0, 0)) from by rw [hw]; exact heap_alloc_new v7 _)
      have HW := Lib.hid (show v7.alloc (.cells #[.int .u64 (nb rt0.E), .int .u64 (nb rt0.P), .int .u64 (nb rt0.T), .int .u64 (nb rt0.S), .int .u64 (nb rt0.L), .int .u64 (nb rt0.a), .int .u64 (nb rt0.b), .int .u64 (nb rt0.c), .int .u64 (nb rt0.d)] 29) = w7 from hw.symm)
      clear hb hbb hw HC HF6 GA6 GB6 GR3_6 GR4_6 GR5_6 GR6_6 qa qb
      go_upto_region 11 with fail
      rw [HW.out]
      clear HW
      generalize v7.heap.size = g7 at *
      have qa := prow9 GA7.out
      have qb := prow9 GB7.out
      obtain ⟨w8, hw⟩ : ∃ w8 : World, w8 = w7.alloc (.cells (rtCs a) 29) := ⟨_, rfl⟩
      have hbb : FB w7 w8 := by rw [hw]; exact (FB.refl _).alloc _
      have HF8 := Lib.hid (HF7.out.trans hbb)
      have GA8 := Lib.hid (hbb.keep GA7.out)
      have GB8 := Lib.hid (hbb.keep GB7.out)
      have GR3_8 := Lib.hid (hbb.keep GR3_7.out)
      have GR4_8 := Lib.hid (hbb.keep GR4_7.out)
      have GR5_8 := Lib.hid (hbb.keep GR5_7.out)
      have GR6_8 := Lib.hid (hbb.keep GR6_7.out)
      have GR7_8 := Lib.hid (hbb.keep GR7_7.out)
      have GW8 := Lib.hid (show w8.heap[w7.heap.size]? = some (.cells (rtCs a) 29 (0, 0)) from by rw [hw]; exact heap_alloc_new w7 _)
      have HW := Lib.hid (show w7.alloc (.cells #[.int .u64 (nb a.E), .int .u64 (nb a.P), .int .u64 (nb a.T), .int .u64 (nb a.S), .int .u64 (nb a.L), .int .u64 (nb a.a), .int .u64 (nb a.b), .int .u64 (nb a.c), .int .u64 (nb a.d)] 29) = w8 from hw.symm)
      have HLE := Lib.hid (show ga ≤ w7.heap.size from by have := HF7.out.le; have := HGA.out; omega)
      clear hbb hw HF7 GA7 GB7 GR3_7 GR4_7 GR5_7 GR6_7 GR7_7
      go_upto_region 12 with fail
      rw [HW.out]
      clear HW qa qb
      generalize w7.heap.size = g8 at *
      have qa := prow9 GA8.out
      have qb := prow9 GB8.out
      go_upto_region 14 with fail
      clear qa qb
      have HF9 := HF8
      have GA9 := GA8
      have GB9 := GB8
      have GR3_9 := GR3_8
      have GR4_9 := GR4_8
      have GR5_9 := GR5_8
      have GR6_9 := GR6_8
      have GR7_9 := GR7_8
      have GW9 := GW8
      clear HF8 GA8 GB8 GR3_8 GR4_8 GR5_8 GR6_8 GR7_8 GW8
      have hw9 : ∃ w9 : World, w9 = w8 := ⟨_, rfl⟩
      obtain ⟨w9, hw9⟩ := hw9
      rw [← hw9] at HF9 GA9 GB9 GR3_9 GR4_9 GR5_9 GR6_9 GR7_9 GW9 ⊢
      clear hw9
      obtain ⟨W0, hW0⟩ : ∃ W0 : World, W0 = w9 := ⟨_, rfl⟩
      rw [← hW0]
      refine region_sch (E := FB) ((0, true) :: (1, true) :: (2, true) :: (3, true) :: (4, true) :: (5, true) :: (6, true) :: (7, true) :: (8, true) :: (9, true) :: (10, true) :: (11, true) :: (12, true) :: (13, true) :: (14, true) :: (15, true) :: (16, true) :: (17, true) :: (18, true) :: (19, true) :: (20, true) :: (21, true) :: (22, true) :: (23, true) :: (24, true) :: (25, true) :: (26, true) :: (27, true) :: (28, true) :: (29, true) :: (30, true) :: (31, true) :: (32, true) :: (33, true) :: (34, true) :: (35, true) :: (36, true) :: (37, true) :: (38, true) :: (39, true) :: (40, true) :: (42, true) :: (43, true) :: (44, true) :: (45, true) :: (41, false) :: (46, true) :: (47, true) :: (48, true) :: []) (by kernel_rfl) FB.refl fb_trans (fun _ _ d _ _ h => by cases d <;> exact h) (by kernel_rfl) ?_
      intro ops hops0
      have hops := Lib.hid hops0
      clear hops0
      have HF : FB W0 W0.drew := (FB.refl _).drew
      generalize W0.drew = wF at *
      have HFq := Lib.hid (show FB w9 wF from by rw [← hW0]; exact HF)
      clear hW0 HF
      have KA := Lib.hid (HFq.out.keep GA9.out)
      have KB := Lib.hid (HFq.out.keep GB9.out)
      have KR3_ := Lib.hid (HFq.out.keep GR3_9.out)
      have KR4_ := Lib.hid (HFq.out.keep GR4_9.out)
      have KR5_ := Lib.hid (HFq.out.keep GR5_9.out)
      have KR6_ := Lib.hid (HFq.out.keep GR6_9.out)
      have KR7_ := Lib.hid (HFq.out.keep GR7_9.out)
      have KW := Lib.hid (HFq.out.keep GW9.out)
      have HF := FB.refl wF
      have hbt := rt_bit a
      have hws : IntKind.i64.wrap (rtSlot a : Int) = (rtSlot a : Int) := by rw [IntKind.wrap_i64]; have := rtSlot_lt a; omega
      repeat (refine sch_take (o := ?_) (v := ?_) (a' := ?_) (at_of hops.out ?_) ?_ (fun W hW => ?_) ?_ ?_; rotate_left 3; (focus (simp only [List.getElem?_toArray, List.getElem?_cons_zero, List.getElem?_cons_succ]; rfl)); (focus (rw [hops.out]; rfl)); (focus (have uA := prow9 (hW.keep KA.out); have uB := prow9 (hW.keep KB.out); have uR3_ := prow9 (hW.keep KR3_.out); have uR4_ := prow9 (hW.keep KR4_.out); have uR5_ := prow9 (hW.keep KR5_.out); have uR6_ := prow9 (hW.keep KR6_.out); have uR7_ := prow9 (hW.keep KR7_.out); have uW := prow9 (hW.keep KW.out); go_simp; with_reducible rfl)); (focus (simp only [Act.put, List.setIfInBounds_toArray, List.set_cons_zero, List.set_cons_succ]; rfl)))
      (refine sch_call (o := ?_) (f := ?_) (args := ?_) (at_of hops.out ?_) ?_ ?_ ?_; rotate_left 3; (focus (simp only [List.getElem?_toArray, List.getElem?_cons_zero, List.getElem?_cons_succ]; rfl)); (focus (rw [hops.out]; rfl)); (focus (go_simp; constructor <;> with_reducible rfl)); (first | ((with_reducible refine (rt_SlotU a _).mono ?_); rintro e wz ⟨rfl, hb⟩; refine ⟨_, rfl, hb, ?_⟩; intro a' ha'; simp only [Act.put, List.setIfInBounds_toArray, List.set_cons_zero, List.set_cons_succ] at ha'; subst ha'; replace HF := HF.call hb; clear hb)))
      repeat (refine sch_take (o := ?_) (v := ?_) (a' := ?_) (at_of hops.out ?_) ?_ (fun W hW => ?_) ?_ ?_; rotate_left 3; (focus (simp only [List.getElem?_toArray, List.getElem?_cons_zero, List.getElem?_cons_succ]; rfl)); (focus (rw [hops.out]; rfl)); (focus (go_simp; with_reducible rfl)); (focus (simp only [Act.put, List.setIfInBounds_toArray, List.set_cons_zero, List.set_cons_succ]; rfl)))
      refine sch_done ?_
      have HE := Lib.hid ((HF9.out.trans HFq.out).trans HF)
      clear hops HF hbt hws HEA HEB HE0 HEG
      go_wp2
      go_ret
      exact ⟨rfl, HE.out⟩
end Go.Proofs.Ytihljjfnjclefaa
