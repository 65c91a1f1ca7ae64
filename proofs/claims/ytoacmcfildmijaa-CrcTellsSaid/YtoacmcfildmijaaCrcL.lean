/- The chapter's examples ('lives') and the first statement of package tallymanlaw03. -/
import Derived.Test.YtoacmcfildmijaaCrcR
set_option linter.unusedVariables false
set_option linter.unusedSimpArgs false
namespace Go.Proofs.Ytoacmcfildmijaa
open Go.ChangeShapes Go.WideShapes Go.ChangeAt Go.RowKit

def digits : List Byte := [49#8, 50#8, 51#8, 52#8, 53#8, 54#8, 55#8, 56#8, 57#8]
theorem val_1 : nb (crcWord 1) = 4067132163 := by decide +kernel
theorem val_128 : nb (crcWord 128) = 2197175160 := by decide +kernel
theorem val_digits : nb (crcSum digits) = 3808858755 := by decide +kernel
theorem val_none : nb (crcSum []) = 0 := by decide +kernel
theorem tab_1 {T : Array Value} (h : TabTo T 256) : T[1]? = some (.int .u32 4067132163) := by rw [← val_1]; exact h.2.2 1 (by omega)
theorem tab_128 {T : Array Value} (h : TabTo T 256) : T[128]? = some (.int .u32 2197175160) := by rw [← val_128]; exact h.2.2 128 (by omega)
theorem tab_all {T : Array Value} {k : Nat} (h : TabTo T k) : T.all (·.oneCell') = true := by rw [← Array.all_toList]; exact List.all_eq_true.2 h.2.1
theorem tab_size {T : Array Value} {k : Nat} (h : TabTo T k) : (Try.prog.info? 31).map (·.size) = some T.size := by rw [h.1]; exact info_tab

theorem sum_digits (w : World) (A : Option Addr) (hr : Rd w A digits) :
    Calls Try.prog 9 #[.slice A 9 9] w fun e w' => e = .returned (.int .u32 3808858755) ∧ Below w.heap.size w w' := by
  have h := crc_Sum digits A 9 w (by decide) (by simp [maxLen]) hr
  rw [val_digits] at h
  exact h
theorem sum_nil (w : World) :
    Calls Try.prog 9 #[.slice none 0 0] w fun e w' => e = .returned (.int .u32 0) ∧ Below w.heap.size w w' := by
  have h := crc_Sum [] none 0 w (by decide) (by simp [maxLen]) (Rd.nil _ _)
  rw [val_none] at h
  exact h
theorem rd_digits (w : World) (t : TypeId) (g : Nat) (hg : g = w.heap.size) : Rd (w.alloc (.cells #[.int .u8 49, .int .u8 50, .int .u8 51, .int .u8 52, .int .u8 53, .int .u8 54, .int .u8 55, .int .u8 56, .int .u8 57] t (9, 10))) (some ⟨g, 0, none⟩) digits := RdV.litF w (vbs digits) t (9, 10) hg

set_option maxRecDepth 100000 in
set_option maxHeartbeats 400000 in
theorem crc_lives (w : World) : Calls Try.prog 8 #[] w fun e w' => e = .returned (.bool true) ∧ Below w.heap.size w w' := by
  have hz := (zero_of_info zero_tab).1
  go_enter Try.func8, Try.ntmps8
  go_wp2_with fail
  refine (crc_Table _).mono ?_
  rintro e w1 ⟨T, rfl, hT, hb⟩
  have HT := Lib.hid hT
  have HB := Lib.hid hb
  clear hT hb
  have hs := run_storeAt_new (P := Try.prog) w1 31 zeroTab T (tab_size HT.out) (by rw [zeroTab_size, HT.out.1]) (tab_all HT.out)
  have hcv := conv_const
  have h1 := tab_1 HT.out
  have h2 := tab_128 HT.out
  go_wp2_with (refine wpList_store_by rfl _ _ _ rfl _ hs ?_)
  refine (sum_digits _ _ (rd_digits _ _ _ (by simp))).mono ?_
  rintro e w2 ⟨rfl, hb2⟩
  have HB2 := Lib.hid hb2
  clear hb2
  go_wp2_with fail
  refine (sum_nil _).mono ?_
  rintro e w3 ⟨rfl, hb3⟩
  have HB3 := Lib.hid hb3
  clear hb3
  go_wp2
  go_ret
  refine ⟨rfl, ?_⟩
  have a1 := ((HB.out.alloc HB.out.size (.cells T 31)).alloc (by have := HB.out.size; simp; omega) (.cells #[.int .u8 49, .int .u8 50, .int .u8 51, .int .u8 52, .int .u8 53, .int .u8 54, .int .u8 55, .int .u8 56, .int .u8 57] 5 (9, 10)))
  exact below_trans (below_trans a1 a1.size HB2.out) (below_trans a1 a1.size HB2.out).size HB3.out

end Go.Proofs.Ytoacmcfildmijaa
