/- The walk through ChainNames. -/
import Derived.Test.YtoidlmhebnlnbaaDoorMCha
import Derived.Test.YtoidlmhebnlnbaaDoorMChb
import Derived.Test.YtoidlmhebnlnbaaDoorMChc
import Derived.Test.YtoidlmhebnlnbaaDoorMChd
import Derived.Test.YtoidlmhebnlnbaaDoorMChe
import Derived.Test.YtoidlmhebnlnbaaDoorMChf
import Derived.Test.YtoidlmhebnlnbaaDoorMChg
import Derived.Test.YtoidlmhebnlnbaaDoorMChh
import Derived.Test.YtoidlmhebnlnbaaDoorMChi
import Derived.Test.YtoidlmhebnlnbaaDoorMChj
import Derived.Test.YtoidlmhebnlnbaaDoorMChk
import Derived.Test.YtoidlmhebnlnbaaDoorMChl
import Derived.Test.YtoidlmhebnlnbaaDoorMChm
import Derived.Test.YtoidlmhebnlnbaaDoorMChn
import Derived.Test.YtoidlmhebnlnbaaDoorMCho
import Derived.Test.YtoidlmhebnlnbaaDoorMChp
import Derived.Test.YtoidlmhebnlnbaaDoorMChq
import Derived.Test.YtoidlmhebnlnbaaDoorMChr
import Derived.Test.YtoidlmhebnlnbaaDoorMChs
import Derived.Test.YtoidlmhebnlnbaaDoorMCht
set_option linter.unusedVariables false
set_option linter.unusedSimpArgs false
namespace Go.Proofs.YtoidlmhebnlnbaaDoor
open Go.ChangeShapes Go.WideShapes Go.ChangeAt Go.RowKit
attribute [local go_sem] nb_nonneg nb_lt8 nb_lt64
set_option maxRecDepth 100000

set_option maxHeartbeats 400000 in
theorem ch_Read_nil (k h m : Int) (w : World) : Calls Tryd.prog 8 #[.pointer none, .int .i64 k, .int .i64 h, .int .i64 m] w fun e w' => e = .returned (.tuple #[.slice none 0 0, .slice none 0 0, .int .i64 1]) ∧ w = w' := by
  refine (callsIn_wide (n := 10)).1 ?_
  refine callsIn_of_wp_marks Tryd.func8 rfl trivial ?_ rfl
  simp only [Tryd.ntmps8, List.size_toArray, List.length_cons, List.length_nil, Nat.reduceAdd, Nat.reduceSub, Array.replicate_succ, Array.replicate_zero, List.push_toArray, List.append_toArray, List.nil_append, List.cons_append]
  gi_wp2
  refine ⟨trivial, ?_⟩
  gi_wp2
  exact ⟨_, results_tmp3 rfl _ _ _, rfl, rfl⟩
set_option maxHeartbeats 400000 in
theorem ch_Write_nil (k : Int) (u v : Value) (w : World) : Calls Tryd.prog 12 #[.pointer none, .int .i64 k, u, v] w fun e w' => e = .returned (.int .i64 1) ∧ w = w' := by
  go_enter Tryd.func12, Tryd.ntmps12
  go_wp2
  go_ret
  exact ⟨rfl, rfl⟩
theorem pgR_zero : (pgR (List.replicate 4096 0#8)).2 = 4 := by
  unfold pgR
  rw [if_neg]
  rintro ⟨-, h⟩
  have hk : pgKd (List.replicate 4096 0#8) = 0 := by
    unfold pgKd
    rw [List.getD_eq_getElem?_getD, List.getElem?_replicate]
    rfl
  rw [hk] at h
  unfold pgB at h
  rw [if_neg (by unfold pgOk; simp)] at h
  have := congrArg Prod.snd h
  simp at this
theorem nm_read : (chRead 64 7 2 9 (ch0 64)).1 = ([], [], 4) ∧ PlInv 64 (chRead 64 7 2 9 (ch0 64)).2 := by
  have hI := ch0_inv 64
  obtain ⟨g1, g2, g3, g4⟩ := plGet_np hI (ch0_np 64) (k := 2) (by decide)
  have hv : plV (ch0 64) 2 = List.replicate 4096 0#8 := by
    rw [plV_miss (find_fresh 8 _)]
    exact pgAt_new (by decide)
  have hb := chRd_bad (n := 64) (kind := 7) (most := 9) (f := (9 : Int).toNat) (i := 0) (seen := []) (head := ((2 : Nat) : Int)) (st := ch0 64) g1 (by
    rw [g2, hv]
    rintro ⟨h, -⟩
    rw [pgR_zero] at h
    cases h)
  rw [chRd_code hI 7 9 2 rfl (by omega)]
  have e : chFuel 9 = (9 : Int).toNat + 1 := rfl
  rw [e]
  rw [show ((2 : Nat) : Int) = 2 from rfl] at hb g3
  rw [hb]
  exact ⟨rfl, g3⟩
theorem nm_read2 (st : PlSt) : chRead 64 7 1 9 st = (([], [], 2), st) := by unfold chRead; rw [if_neg (by omega)]
theorem nm_pages1 : chPages 4 [2] [] = ([], 2) := by unfold chPages; rw [if_neg (fun h => by have := h.1; cases this)]
theorem nm_pages2 (b : List Byte) : chPages 7 [2, 2] b = ([], 2) := by
  unfold chPages
  rw [if_neg (fun h => (h.2.2 1 (by simp)).2.2 (by simp))]
set_option maxHeartbeats 4000000 in
theorem chainNames_walk (w : World) : Calls Tryd.prog 3 #[] w fun e w' => e = .returned (.bool true) ∧ Below w.heap.size w w' := by
  obtain ⟨C2, hmk2, hC2⟩ := mk_bytes 5000 5000 rfl (by omega)
  have HC2 := Lib.hid hC2
  clear hC2
  go_enter Tryd.func3, Tryd.ntmps3
  go_wp2_with fail
  have hfa : FB w (w.alloc (.cells #[.int .i64 2] 3)) := (FB.refl w).alloc _
  have hc := ch_Pages 4 [2] [] (some ⟨w.heap.size, 0, none⟩) none 1 0 _ (by simp) (by simp) (by simp) (by simp [maxLen]) (RdV.lit w [.int .i64 2] 3 rfl) (Rd.nil _ _)
  rw [nm_pages1] at hc
  refine hc.mono ?_
  rintro e w1 ⟨A1, c1, vs1, rfl, -, -, -, -, -, hb⟩
  have HF1 := Lib.hid (hfa.trans hb)
  clear hc hfa hb
  go_wp2_with fail
  have hfa : FB w1 ((w1.alloc (.cells #[.int .i64 2, .int .i64 2] 3)).alloc (.cells C2 5)) := ((FB.refl w1).alloc _).alloc _
  have hc := ch_Pages 7 [2, 2] lv9 (some ⟨w1.heap.size, 0, none⟩) (some ⟨w1.heap.size + 1, 0, none⟩) 2 5000 _ (by simp) (by rw [lv9_len]; omega) (by rw [lv9_len]; omega) (by simp [maxLen]) ((RdV.lit w1 [.int .i64 2, .int .i64 2] 3 rfl).alloc _) (rd_mk HC2.out _ _ (by simp))
  rw [nm_pages2, lv9_len] at hc
  refine hc.mono ?_
  rintro e w2 ⟨A2, c2, vs2, rfl, -, -, -, -, -, hb⟩
  have HF2 := Lib.hid (HF1.out.trans (hfa.trans hb))
  clear hc hfa hb HF1 hmk2
  go_wp2_with fail
  refine (ch_Read_nil 7 2 9 w2).mono ?_
  rintro e w3 ⟨rfl, rfl⟩
  go_wp2_with fail
  refine (dsk_New_ok 64 (by omega) (by omega) w2).mono ?_
  rintro e w3 ⟨F, g, rfl, hd, hf, hn⟩
  have HD := Lib.hid hd
  have HF := Lib.hid (HF2.out.trans hf)
  have HN := Lib.hid (fun x hx => Nat.le_trans HF2.out.le (hn x hx))
  clear hd hf hn HF2
  go_wp2_with fail
  refine (po_New HD.out HN.out HF.out 8 (by omega) (by omega) (by omega)).mono ?_
  rintro e w4 ⟨gp, gf, rfl, hp⟩
  have HP := Lib.hid (show PoA w [] g 64 gp gf (ch0 64) w4 from hp)
  clear hp HD HF HN
  go_wp2_with fail
  have HC := Lib.hid (ch_Read HP.out (ch0_inv 64) (by simp) 7 2 9 (by omega))
  have HR := Lib.hid nm_read
  generalize chRead 64 7 2 9 (ch0 64) = S at *
  obtain ⟨r, st1⟩ := S
  obtain rfl : r = ([], [], 4) := HR.out.1
  refine HC.out.mono ?_
  rintro e w5 ⟨A5, c5, B5, d5, rfl, -, -, -, -, -, -, hp, -⟩
  have HP5 := Lib.hid (hp.fewer (K' := []) (by simp))
  clear hp HC HP
  go_wp2_with fail
  have hc := ch_Read HP5.out HR.out.2 (by simp) 7 1 9 (by omega)
  rw [nm_read2] at hc
  refine hc.mono ?_
  rintro e w6 ⟨A6, c6, B6, d6, rfl, -, -, -, -, -, -, hp, -⟩
  have HF6 := Lib.hid hp.fb
  clear hp hc HP5
  go_wp2_with fail
  refine (law9_lives w6).mono ?_
  rintro e w7 ⟨rfl, hb⟩
  have HF7 := Lib.hid (HF6.out.trans hb)
  clear hb HF6
  go_wp2_with fail
  refine (ch_Write_nil 7 _ _ _).mono ?_
  rintro e w8 ⟨rfl, rfl⟩
  have HF8 := Lib.hid (HF7.out.alloc (.cells #[.int .i64 2] 3))
  clear HF7
  go_wp2_with fail
  refine (ch_Need (-5) _ (by omega)).mono ?_
  rintro e w9 ⟨rfl, rfl⟩
  rw [show chNeed (-5) = 1 from rfl]
  go_wp2
  go_ret
  exact ⟨rfl, HF8.out⟩
end Go.Proofs.YtoidlmhebnlnbaaDoor
