/- page: the chapter's examples (lives). -/
import Derived.Test.YtihljjfnjclefaaDoorPgE
import Derived.Test.YtihljjfnjclefaaDoorKit
set_option linter.unusedVariables false
set_option linter.unusedSimpArgs false
namespace Go.Proofs.YtihljjfnjclefaaDoor
open Go.ChangeShapes Go.WideShapes Go.ChangeAt Go.RowKit
set_option maxRecDepth 100000

def ab2 : List Byte := [97#8, 98#8]
theorem ab_ok : pgB 6 258#32 ab2 = (pgBytes 6#8 258#32 ab2, 0) := by unfold pgB; rw [if_pos (by decide)]; rfl
theorem ab_len : (pgBytes 6#8 258#32 ab2).length = 4096 := pgBytes_len _ _ (by decide)
theorem ab_read : pgR (pgBytes 6#8 258#32 ab2) = ((6, 258#32, pgPad ab2), 0) := pgR_bytes (K := 6) (n := 258#32) (x := ab2) (by decide)
theorem ab_head : (pgBytes 6#8 258#32 ab2).take 12 = [84#8, 77#8, 1#8, 6#8, 2#8, 1#8, 0#8, 0#8, 0#8, 0#8, 0#8, 0#8] := by rw [pgBytes_take]; decide
theorem ab_pad : (pgPad ab2).take 3 = [97#8, 98#8, 0#8] := by
  unfold pgPad
  rw [show 4080 - ab2.length = 4077 + 1 from by decide, List.replicate_succ]; rfl
theorem ab_padlen : (pgPad ab2).length = 4080 := pgPad_len (by decide)
theorem ab_same : pgSame 6 258#32 (pgPad ab2) 6 258#32 ab2 = true := by unfold pgSame; rw [trimz_pad]; simp
set_option maxHeartbeats 2000000 in
theorem pg_lives (w : World) : Calls Tryd.prog 9 #[] w fun e w' => e = .returned (.bool true) ∧ FB w w' := by
  have hcv := conv_const w.heap.size w #[.int .u8 97, .int .u8 98] 2 2 rfl
  obtain ⟨w1, hw1⟩ : ∃ w1, w1 = w.alloc (.cells #[.int .u8 97, .int .u8 98] 5 (2, 3)) := ⟨_, rfl⟩
  have hr1 : Rd w1 (some ⟨w.heap.size, 0, none⟩) ab2 := by rw [hw1]; exact RdV.litF w [.int .u8 97, .int .u8 98] 5 (2, 3)
  have HF1 := Lib.hid (show FB w w1 from by rw [hw1]; exact (FB.refl w).alloc _)
  have hcall := pg_Bytes 6 258#32 ab2 (some ⟨w.heap.size, 0, none⟩) 2 w1 (by decide) hr1
  rw [ab_ok, show nb (258#32) = 258 from rfl, show ab2.length = 2 from rfl] at hcall
  have HC := Lib.hid hcall
  rw [show (#[Value.int .u8 97, Value.int .u8 98] : Array Value).size = 2 from rfl, ← hw1] at hcv
  clear hcall hr1 hw1
  go_enter Tryd.func9, Tryd.ntmps9
  go_wp2_with fail
  clear hcv
  refine HC.out.mono ?_
  rintro e w2 ⟨A2, c2, rfl, ho, hb⟩
  have HF2 := Lib.hid (HF1.out.trans hb)
  simp only at ho
  obtain ⟨h1, h2, h3, -, -⟩ := Own.info ho
  rw [ab_len] at h1 ⊢
  have HRD := Lib.hid h3
  have hcz : (12 : Int) ≤ (c2 : Int) := by omega
  have hcm : (c2 : Int) ≤ 9223372036854775807 := by unfold maxLen at h2; omega
  obtain ⟨b, o, rfl, -, -⟩ := Rd.form h3 (by rw [ab_len]; omega)
  have hs1 := run_string c2 (h3.take 12)
  rw [ab_head] at hs1
  have hs2 : (convert 23 9 (.slice (some ⟨b, o, none⟩) 12 c2)).run Tryd.prog w2 = .ok (.string ⟨#[84, 77, 1, 6, 2, 1, 0, 0, 0, 0, 0, 0]⟩) w2 := hs1
  have hcr := pg_Read (pgBytes 6#8 258#32 ab2) (some ⟨b, o, none⟩) c2 w2 (by rw [ab_len]; omega) (by rw [ab_len]; exact h1) h2 h3
  rw [ab_read, ab_len] at hcr
  have HCR := Lib.hid (hcr.mono (fun e w' h => show ∃ A c, e = .returned (.tuple #[.agg #[.int .i64 6, .int .u32 258, .slice A 4080 c], .int .i64 0]) ∧ Rd w' A (pgPad ab2) ∧ 4080 ≤ c ∧ c ≤ maxLen ∧ FB w2 w' from by
    obtain ⟨A, c, h1, h2, h3, h4, h5⟩ := h
    have h1' : e = .returned (.tuple #[.agg #[.int .i64 6, .int .u32 258, .slice A (pgPad ab2).length c], .int .i64 0]) := h1
    simp only at h2 h3
    rw [ab_padlen] at h1' h3
    exact ⟨A, c, h1', h2, h3, h4, h5⟩))
  clear hcr hs1 ho hb h1 h2 h3 HC
  go_wp2_with fail
  clear hs2 hcz hcm
  refine HCR.out.mono ?_
  rintro e w3 ⟨A3, c3, rfl, hr3, hc3, hm3, hb⟩
  obtain ⟨b3, o3, rfl, -, -⟩ := Rd.form hr3 (by rw [ab_padlen]; omega)
  have hbb := hb.alloc (.cells #[.int .i64 6, .int .u32 258, .slice (some ⟨b3, o3, none⟩) 4080 c3] 25)
  have HF3 := Lib.hid (HF2.out.trans hbb)
  obtain ⟨q0, q1, q2⟩ := prow3 (heap_alloc_new w3 (.cells #[.int .i64 6, .int .u32 258, .slice (some ⟨b3, o3, none⟩) 4080 c3] 25))
  have hr4 := (FB.alloc (FB.refl w3) (.cells #[.int .i64 6, .int .u32 258, .slice (some ⟨b3, o3, none⟩) 4080 c3] 25)).rd hr3
  have hcz : (3 : Int) ≤ (c3 : Int) := by omega
  have hcm : (c3 : Int) ≤ 9223372036854775807 := by unfold maxLen at hm3; omega
  have hs1 := run_string c3 (hr4.take 3)
  rw [ab_pad] at hs1
  obtain ⟨w4, hw4⟩ : ∃ w4 : World, w4 = w3.alloc (.cells #[.int .i64 6, .int .u32 258, .slice (some ⟨b3, o3, none⟩) 4080 c3] 25) := ⟨_, rfl⟩
  have HSZ := Lib.hid (show w4.heap.size = w3.heap.size + 1 from by rw [hw4]; simp)
  rw [← hw4] at hs1 hr4 HF3 q0 q1 q2
  have hs2 : (convert 23 9 (.slice (some ⟨b3, o3, none⟩) 3 c3)).run Tryd.prog w4 = .ok (.string ⟨#[97, 98, 0]⟩) w4 := hs1
  have hcv := conv_const w4.heap.size w4 #[.int .u8 97, .int .u8 98] 2 2 rfl
  obtain ⟨w5, hw5⟩ : ∃ w5, w5 = w4.alloc (.cells #[.int .u8 97, .int .u8 98] 5 (2, 3)) := ⟨_, rfl⟩
  have hr5 : Rd w5 (some ⟨w4.heap.size, 0, none⟩) ab2 := by rw [hw5]; exact RdV.litF w4 [.int .u8 97, .int .u8 98] 5 (2, 3)
  have HF45 := Lib.hid (show FB w4 w5 from by rw [hw5]; exact (FB.refl w4).alloc _)
  rw [show (#[Value.int .u8 97, Value.int .u8 98] : Array Value).size = 2 from rfl, ← hw5] at hcv
  have hcs := pg_Same 6 6 258#32 258#32 (pgPad ab2) ab2 (some ⟨b3, o3, none⟩) (some ⟨w4.heap.size, 0, none⟩) c3 2 w5 (by rw [ab_padlen]; omega) (by decide) (by rw [ab_padlen]; exact hc3) (by decide) hm3 (by simp [maxLen]) (HF45.out.rd hr4) hr5
  rw [ab_same, ab_padlen, show nb (258#32) = 258 from rfl, show ab2.length = 2 from rfl] at hcs
  have HCS := Lib.hid hcs
  clear hcs hs1 hr4 hr5 hb hbb hr3 hc3 hm3 HCR hw5
  go_upto_region 5 with fail
  simp only [← hw4]
  clear hw4
  go_wp2_with fail
  clear hcv hs2
  refine HCS.out.mono ?_
  rintro e w6 ⟨rfl, hb⟩
  have HE := Lib.hid ((HF3.out.trans HF45.out).trans hb)
  clear hb
  go_wp2
  go_ret
  exact ⟨rfl, HE.out⟩
end Go.Proofs.YtihljjfnjclefaaDoor
