/- Acts: the walks through small, Act.bytes, tallymankit.Crash. -/
import Derived.Test.YtbedpjpddcjpkaaRowA
import Derived.Test.YtbedpjpddcjpkaaDskN
import Derived.Test.YtbedpjpddcjpkaaKit
set_option linter.unusedVariables false
set_option linter.unusedSimpArgs false
namespace Go.Proofs.Ytbedpjpddcjpkaa
open Go.ChangeShapes Go.WideShapes Go.ChangeAt Go.RowKit Go.MapKept
attribute [local go_sem] nb_nonneg nb_lt8

/-- What an act writes. -/
def actRow (v b : Byte) : List Byte := (List.replicate 512 v).set b.toNat b
theorem actRow_len (v b : Byte) : (actRow v b).length = 512 := by unfold actRow; rw [List.length_set, List.length_replicate]
def actVal (a : ActV) : Value := .agg #[.int .i64 a.K, .int .i64 a.At, .int .u8 (nb a.V), .int .u8 (nb a.B), .int .i64 a.N, .slice a.KA a.ks.length a.kc, .int .i64 a.T, .int .i64 a.Y]
set_option maxRecDepth 100000 in
set_option maxHeartbeats 1000000 in
theorem act_bytes (a : ActV) (w : World) : Calls Try.prog 15 #[.agg #[.int .i64 a.K, .int .i64 a.At, .int .u8 (nb a.V), .int .u8 (nb a.B), .int .i64 a.N, .slice a.KA a.ks.length a.kc, .int .i64 a.T, .int .i64 a.Y]] w fun e w' => ∃ A, e = .returned (.slice A 512 512) ∧ Own w' w.heap.size (.slice A 512 512) (actRow a.V a.B) ∧ FB w w' := by
  obtain ⟨K, At, V, B, N, KA, kc, ks, T, Y⟩ := a
  simp only
  have HF0 := Lib.hid ((FB.refl w).alloc (.cells #[.int .i64 K, .int .i64 At, .int .u8 (nb V), .int .u8 (nb B), .int .i64 N, .slice KA ks.length kc, .int .i64 T, .int .i64 Y] 38))
  have HNEW := Lib.hid (heap_alloc_new w (.cells #[.int .i64 K, .int .i64 At, .int .u8 (nb V), .int .u8 (nb B), .int .i64 N, .slice KA ks.length kc, .int .i64 T, .int .i64 Y] 38))
  have HSZ := Lib.hid (show (w.alloc (.cells #[.int .i64 K, .int .i64 At, .int .u8 (nb V), .int .u8 (nb B), .int .i64 N, .slice KA ks.length kc, .int .i64 T, .int .i64 Y] 38)).heap.size = w.heap.size + 1 from by simp)
  go_enter Try.func15, Try.ntmps15
  go_wp2_with fail
  refine (law4_row V _).mono ?_
  rintro e w1 ⟨A1, rfl, ho, hb⟩
  have HF1 := Lib.hid (HF0.out.trans hb)
  have hrow : w1.heap[w.heap.size]? = some (.cells #[.int .i64 K, .int .i64 At, .int .u8 (nb V), .int .u8 (nb B), .int .i64 N, .slice KA ks.length kc, .int .i64 T, .int .i64 Y] 38 (0, 0)) := by
    rw [hb.block _ (by rw [HSZ.out]; omega)]; exact HNEW.out
  have q1 : w1.cell? ⟨w.heap.size, 3, none⟩ = some (.int .u8 (nb B)) := by rw [cell_of_row _ _ _ _ _ _ hrow]; rfl
  have hlt : B.toNat < 512 := by have := B.isLt; omega
  obtain ⟨g, rfl, hg1, hg2⟩ := Own.head0 ho (by omega)
  rw [HSZ.out] at hg1
  have ho' := Own.lower (base' := w.heap.size) ho (by rw [HSZ.out]; omega)
  obtain ⟨h0, h1, h2⟩ := Own.cellset0 ho' (j := B.toNat) (by rw [List.length_replicate]; omega)
  have HO := Lib.hid (h2 B)
  have HF2 := Lib.hid (HF1.out.set (p := ⟨g, B.toNat, none⟩) (by simp; omega) (vb B))
  have hnb : nb B = ((B.toNat : Nat) : Int) := rfl
  clear ho ho' hb hrow h2 hg1 hg2
  unfold vb at *
  go_wp2_with fail
  go_ret
  exact ⟨_, rfl, HO.out, HF2.out⟩
/-- Are calls gone through? -/
def smallB (l : List ActV) : Bool := decide (l.length ≤ 80) && l.all fun a => decide (a.ks.length ≤ 100)
set_option maxRecDepth 100000 in
set_option maxHeartbeats 1000000 in
theorem acts_small (A : Option Addr) (l : List ActV) (c : Nat) (w : World) (hc : l.length ≤ c) (hm : c ≤ maxLen) (hr : RdActs w A l) : Calls Try.prog 9 #[.slice A l.length c] w fun e w' => e = .returned (.bool (smallB l)) ∧ FB w w' := by
  have HR := Lib.hid hr
  have hml : l.length ≤ 9223372036854775807 := by simp [maxLen] at hm; omega
  generalize hS : smallB l = S
  have HS := Lib.hid hS
  clear hr hS hm hc
  go_enter Try.func9, Try.ntmps9
  go_wp2
  go_loopw [3] (fun i wr => ∃ j : Nat, j ≤ l.length ∧ j ≤ 81 ∧ i = .int .i64 j ∧ Hid (∀ i, i < j → ∀ a, l[i]? = some a → a.ks.length ≤ 100) ∧ Hid (FB w wr)) (fun i _ => l.length - (intOf i).toNat)
  case atStart => exact ⟨0, by omega, by omega, rfl, fun i hi => absurd hi (by omega), FB.refl _⟩
  case round =>
    obtain ⟨j, hj, hj2, rfl, HT, HF⟩ := hrel
    by_cases hlt : j < l.length
    · by_cases h80 : j ≤ 80
      · have hjx : (j : Int) < (l.length : Int) := by omega
        have hj8 : (j : Int) ≤ 80 := by omega
        obtain ⟨b, o, rfl, ha⟩ := HR.out j hlt
        have HLJ := Lib.hid (show l[j]? = some l[j] from List.getElem?_eq_getElem hlt)
        have ha' := ha.fb HF.out
        generalize l[j] = a at *
        have c5 := ha'.c5
        have c6 := ha'.c6
        have c7 := ha'.c7
        clear ha ha'
        go_wp2_with fail
        refine (kit_LightCrash _ _ _ _ _ 100 _).mono ?_
        rintro e w1 ⟨rfl, hb⟩
        have HF1 := Lib.hid (HF.out.trans hb)
        clear hb c5 c6 c7
        by_cases hk : a.ks.length ≤ 100
        · rw [show decide ((a.ks.length : Int) ≤ 100) = true from decide_eq_true (by omega)]
          have HT2 := Lib.hid (show ∀ i, i < j + 1 → ∀ a, l[i]? = some a → a.ks.length ≤ 100 from fun i hi a' ha' => by
            by_cases e : i = j
            · subst e; rw [HLJ.out] at ha'; cases ha'; exact hk
            · exact HT.out i (by omega) a' ha')
          clear hk
          go_wp2
          go_roundw
          case rel => exact ⟨j + 1, by omega, by omega, by go_num, HT2.out, HF1.out⟩
          case measure => simp [intOf]; omega
        · rw [show decide ((a.ks.length : Int) ≤ 100) = false from decide_eq_false (by omega)]
          have HX := Lib.hid (show S = false from by
            rw [← HS.out]
            unfold smallB
            simp only [Bool.and_eq_false_iff, decide_eq_false_iff_not, List.all_eq_false, decide_eq_true_eq]
            exact .inr ⟨a, List.mem_of_getElem? HLJ.out, hk⟩)
          clear hk
          go_wp2
          go_ret
          exact ⟨by rw [HX.out]; rfl, HF1.out⟩
      · have hj8 : ¬ (j : Int) ≤ 80 := by omega
        have hjx : (j : Int) < (l.length : Int) := by omega
        have HX := Lib.hid (show S = false from by
          rw [← HS.out]
          unfold smallB
          simp only [Bool.and_eq_false_iff, decide_eq_false_iff_not]
          exact .inl (by omega))
        have hl8 : ¬ (l.length : Int) ≤ 80 := by omega
        go_wp2
        go_ret
        exact ⟨by rw [HX.out]; rfl, HF.out⟩
    · obtain rfl : j = l.length := by omega
      have hjx : ¬ (l.length : Int) < (l.length : Int) := by omega
      generalize hC : decide ((l.length : Int) ≤ 80) = C
      have HX := Lib.hid (show S = C from by
        rw [← HS.out, ← hC]
        unfold smallB
        have : (l.all fun a => decide (a.ks.length ≤ 100)) = true := by
          simp only [List.all_eq_true, decide_eq_true_eq]
          intro a ha
          obtain ⟨i, hi⟩ := List.getElem?_of_mem ha
          exact HT.out i (List.getElem?_eq_some_iff.1 hi).1 a hi
        rw [this, Bool.and_true]
        simp only [decide_eq_decide]; omega)
      go_wp2
      go_ret
      exact ⟨by rw [HX.out]; rfl, HF.out⟩
end Go.Proofs.Ytbedpjpddcjpkaa
