/- The walk through RootNames. -/
import Derived.Test.YtihljjfnjclefaaMRta
import Derived.Test.YtihljjfnjclefaaMRtb
import Derived.Test.YtihljjfnjclefaaMRtc
import Derived.Test.YtihljjfnjclefaaMRtd
import Derived.Test.YtihljjfnjclefaaMRte
import Derived.Test.YtihljjfnjclefaaMRtf
import Derived.Test.YtihljjfnjclefaaMRtg
import Derived.Test.YtihljjfnjclefaaMRth
import Derived.Test.YtihljjfnjclefaaMRti
import Derived.Test.YtihljjfnjclefaaMRtj
import Derived.Test.YtihljjfnjclefaaMRtk
import Derived.Test.YtihljjfnjclefaaMRtl
set_option linter.unusedVariables false
set_option linter.unusedSimpArgs false
namespace Go.Proofs.Ytihljjfnjclefaa
open Go.ChangeShapes Go.WideShapes Go.ChangeAt Go.RowKit
attribute [local go_sem] nb_nonneg nb_lt8 nb_lt64
set_option maxRecDepth 100000

set_option maxHeartbeats 1000000 in
theorem rtn_Find (w : World) : Calls Try.prog 11 #[.pointer none] w fun e w' => e = .returned (.tuple #[rtV rt0, .int .i64 1]) ∧ FB w w' := by
  obtain ⟨W1, hW1⟩ : ∃ W1 : World, W1 = w.alloc (.cells (rtCs rt0) 29) := ⟨_, rfl⟩
  have HF1 := Lib.hid (show FB w W1 from by rw [hW1]; exact (FB.refl w).alloc _)
  have hn := (show W1.heap[w.heap.size]? = some (.cells (rtCs rt0) 29 (0, 0)) from by rw [hW1]; exact heap_alloc_new w _)
  have hs0 := rt_store rt0 rt0 hn
  unfold rtV at hs0
  rw [rt0_cs] at hs0
  have HE := Lib.hid (And.intro (HF1.out.setRow (g := w.heap.size) (Nat.le_refl _) (rtCs rt0)) (setRow_heap _ _ _ (rtCs rt0) _ _ hn))
  have HW1 := Lib.hid hW1
  clear hW1 hn
  go_enter Try.func11, Try.ntmps11
  go_upto_region 1 with fail
  rw [← rt0_cs, ← HW1.out]
  clear HW1
  go_wp2_with (refine wpList_store_by rfl _ _ _ rfl _ hs0 ?_)
  try simp only [Exit.inBlock, Exit.then]
  refine bodyPost_ret (rt_ret rfl _ w.heap.size rfl _ HE.out.2) rfl ?_
  exact ⟨rfl, HE.out.1⟩
set_option maxHeartbeats 1000000 in
theorem rtn_Write (r : Rt) (w : World) : Calls Try.prog 14 #[.pointer none, rtV r] w fun e w' => e = .returned (.int .i64 1) ∧ FB w w' := by
  obtain ⟨W1, hW1⟩ : ∃ W1 : World, W1 = w.alloc (.cells (rtCs r) 29) := ⟨_, rfl⟩
  have HF1 := Lib.hid (show FB w W1 from by rw [hW1]; exact (FB.refl w).alloc _)
  have HW1 := Lib.hid hW1
  unfold rtV
  clear hW1
  go_enter Try.func14, Try.ntmps14
  go_upto_region 1 with fail
  rw [← HW1.out]
  clear HW1
  go_wp2
  go_ret
  exact ⟨rfl, HF1.out⟩
theorem rtR_nil : rtR [] = (rt0, 4) := by
  refine rtR_far (.inl ?_)
  unfold pgR
  rw [if_neg (by rintro ⟨h, -⟩; cases h)]
  decide
theorem rtB_0 : rtB rt0 = ([], 2) := rtB_off (by decide)
set_option maxHeartbeats 3000000 in
theorem rootNames_walk (w : World) : Calls Try.prog 3 #[] w fun e w' => e = .returned (.bool true) ∧ Below w.heap.size w w' := by
  have h1 := rt_Bytes rt0 w
  rw [rtB_0] at h1
  have HC1 := Lib.hid (show Calls Try.prog 9 #[.agg #[.int .u64 0, .int .u64 0, .int .u64 0, .int .u64 0, .int .u64 0, .int .u64 0, .int .u64 0, .int .u64 0, .int .u64 0]] w fun e w' => PgBy ([], 2) w e w' from h1)
  clear h1
  go_enter Try.func3, Try.ntmps3
  go_wp2_with fail
  refine HC1.out.mono ?_
  rintro e w1 ⟨A1, c1, rfl, -, hb⟩
  have HF1 := Lib.hid hb
  have h2 := rt_Read [] none 0 w1 (by simp) (by simp) (by simp [maxLen]) (Rd.nil _ _)
  rw [rtR_nil] at h2
  have HC2 := Lib.hid (show Calls Try.prog 10 #[.slice none 0 0] w1 fun e w' => e = .returned (.tuple #[.agg #[.int .u64 0, .int .u64 0, .int .u64 0, .int .u64 0, .int .u64 0, .int .u64 0, .int .u64 0, .int .u64 0, .int .u64 0], .int .i64 4]) ∧ FB w1 w' from h2)
  clear hb h2 HC1
  go_wp2_with fail
  refine HC2.out.mono ?_
  rintro e w2 ⟨rfl, hb⟩
  have HF2 := Lib.hid ((HF1.out.trans hb).alloc (.cells #[.int .u64 0, .int .u64 0, .int .u64 0, .int .u64 0, .int .u64 0, .int .u64 0, .int .u64 0, .int .u64 0, .int .u64 0] 29))
  have HC3 := Lib.hid (fun W => show Calls Try.prog 11 #[.pointer none] W fun e w' => e = .returned (.tuple #[.agg #[.int .u64 0, .int .u64 0, .int .u64 0, .int .u64 0, .int .u64 0, .int .u64 0, .int .u64 0, .int .u64 0, .int .u64 0], .int .i64 1]) ∧ FB W w' from rtn_Find W)
  clear hb HC2 HF1
  go_wp2_with fail
  generalize w2.alloc _ = w3 at *
  refine (HC3.out _).mono ?_
  rintro e w4 ⟨rfl, hb⟩
  have HF4 := Lib.hid ((HF2.out.trans hb).alloc (.cells #[.int .u64 0, .int .u64 0, .int .u64 0, .int .u64 0, .int .u64 0, .int .u64 0, .int .u64 0, .int .u64 0, .int .u64 0] 29))
  clear hb HC3 HF2
  go_wp2_with fail
  generalize w4.alloc _ = w5 at *
  refine (dsk_New_ok 63 (by omega) (by omega) _).mono ?_
  rintro e w6 ⟨F, g, rfl, hd, hb, hF⟩
  have HF6 := Lib.hid (HF4.out.trans hb)
  have HN := Lib.hid (show ∀ x ∈ F, w.heap.size ≤ x from fun x hx => Nat.le_trans HF4.out.le (hF x hx))
  have h3 := rt_Find hd
  rw [show rtFd ⟨List.replicate (512 * 63) 0#8, [], none⟩ 63 = ((rt0, 2), ⟨List.replicate (512 * 63) 0#8, [], none⟩) from by unfold rtFd; rw [show rtGreat 63 = false from by decide]; rfl] at h3
  have HC4 := Lib.hid (show Calls Try.prog 11 #[.pointer (some ⟨g, 0, none⟩)] w6 fun e w' => e = .returned (.tuple #[.agg #[.int .u64 0, .int .u64 0, .int .u64 0, .int .u64 0, .int .u64 0, .int .u64 0, .int .u64 0, .int .u64 0, .int .u64 0], .int .i64 2]) ∧ Dsk w' F g 63 ⟨List.replicate (512 * 63) 0#8, [], none⟩ ∧ TS F w6 w' from h3)
  clear hd hb hF h3 HF4
  go_wp2_with fail
  refine HC4.out.mono ?_
  rintro e w7 ⟨rfl, -, ht⟩
  have HF7 := Lib.hid ((HF6.out.ts ht HN.out).alloc (.cells #[.int .u64 0, .int .u64 0, .int .u64 0, .int .u64 0, .int .u64 0, .int .u64 0, .int .u64 0, .int .u64 0, .int .u64 0] 29))
  clear ht HC4 HF6 HN
  go_wp2_with fail
  generalize w7.alloc _ = w8 at *
  refine (dsk_New_ok 72 (by omega) (by omega) _).mono ?_
  rintro e w9 ⟨F2, g2, rfl, hd, hb, hF⟩
  have HD9 := Lib.hid hd
  have HF9 := Lib.hid (HF7.out.trans hb)
  have HN := Lib.hid (show ∀ x ∈ F2, w.heap.size ≤ x from fun x hx => Nat.le_trans HF7.out.le (hF x hx))
  clear hd hb hF HF7
  go_wp2_with fail
  refine (rt_lives _).mono ?_
  rintro e w10 ⟨rfl, hb⟩
  have HF10 := Lib.hid (HF9.out.trans hb)
  have HD10 := Lib.hid (HD9.out.fb hb)
  clear hb HF9 HD9
  go_wp2_with fail
  refine (l6_of1 _).mono ?_
  rintro e w11 ⟨rfl, hb⟩
  have HF11 := Lib.hid (HF10.out.trans hb)
  have HD11 := Lib.hid (HD10.out.fb hb)
  clear hb HF10 HD10
  go_wp2_with fail
  refine (rtn_Write (rtE 1#64) _).mono ?_
  rintro e w12 ⟨rfl, hb⟩
  have HF12 := Lib.hid (HF11.out.trans hb)
  have HD12 := Lib.hid (HD11.out.fb hb)
  clear hb HF11 HD11
  go_wp2_with fail
  refine (l6_of1 _).mono ?_
  rintro e w13 ⟨rfl, hb⟩
  have HF13 := Lib.hid (HF12.out.trans hb)
  have hcw := rt_Write (HD12.out.fb hb) (rtE 1#64)
  rw [show rtW ⟨List.replicate (512 * 72) 0#8, [], none⟩ 72 (rtE 1#64) = (2, ⟨List.replicate (512 * 72) 0#8, [], none⟩) from by unfold rtW; rw [rtE_ok (by decide), if_pos rfl, if_neg (by decide)]] at hcw
  have HC5 := Lib.hid hcw
  clear hb hcw HF12 HD12
  go_wp2_with fail
  refine HC5.out.mono ?_
  rintro e w14 ⟨rfl, F3, hf3, -, ht⟩
  have HF14 := Lib.hid (HF13.out.ts ht HN.out)
  clear hf3 ht HC5 HF13 HN
  have HC6 := Lib.hid (fun W => show Calls Try.prog 15 #[.int .u64 7] W fun e w' => e = .returned (.agg #[.int .u64 7, .int .u64 8, .int .u64 0, .int .u64 0, .int .u64 0, .int .u64 0, .int .u64 0, .int .u64 0, .int .u64 0]) ∧ FB W w' from l6_of 7#64 W)
  go_wp2_with fail
  refine (HC6.out _).mono ?_
  rintro e w15 ⟨rfl, hb⟩
  have HF15 := Lib.hid (HF14.out.trans hb)
  have HC7 := Lib.hid (fun W => show Calls Try.prog 16 #[.agg #[.int .u64 7, .int .u64 8, .int .u64 0, .int .u64 0, .int .u64 0, .int .u64 0, .int .u64 0, .int .u64 0, .int .u64 0]] W fun e w' => e = .returned (.int .i64 1) ∧ FB W w' from rt_Slot (rtE 7#64) W)
  clear hb HF14 HC6
  go_wp2_with fail
  refine (HC7.out _).mono ?_
  rintro e w16 ⟨rfl, hb⟩
  have HF16 := Lib.hid (HF15.out.trans hb)
  have HC8 := Lib.hid (fun W => show Calls Try.prog 17 #[.agg #[.int .u64 1, .int .u64 8, .int .u64 1, .int .u64 0, .int .u64 0, .int .u64 0, .int .u64 0, .int .u64 0, .int .u64 0]] W fun e w' => e = .returned (.int .i64 2) ∧ FB W w' from rt_Check ⟨1#64, 8#64, 1#64, 0#64, 0#64, 0#64, 0#64, 0#64, 0#64⟩ W)
  clear hb HF15 HC7
  go_wp2_with fail
  refine (HC8.out _).mono ?_
  rintro e w17 ⟨rfl, hb⟩
  have HF17 := Lib.hid (HF16.out.trans hb)
  have HC9 := Lib.hid (fun W => show Calls Try.prog 17 #[.agg #[.int .u64 1, .int .u64 8, .int .u64 0, .int .u64 7, .int .u64 0, .int .u64 0, .int .u64 0, .int .u64 0, .int .u64 0]] W fun e w' => e = .returned (.int .i64 0) ∧ FB W w' from rt_Check ⟨1#64, 8#64, 0#64, 7#64, 0#64, 0#64, 0#64, 0#64, 0#64⟩ W)
  clear hb HF16 HC8
  go_wp2_with fail
  refine (HC9.out _).mono ?_
  rintro e w18 ⟨rfl, hb⟩
  have HE := Lib.hid (HF17.out.trans hb)
  clear hb
  go_wp2
  go_ret
  exact ⟨rfl, HE.out⟩
end Go.Proofs.Ytihljjfnjclefaa
