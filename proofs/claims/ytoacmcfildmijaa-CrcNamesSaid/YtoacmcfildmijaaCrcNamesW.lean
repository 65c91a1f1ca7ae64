/- The walk of CrcNames. -/
import Derived.Test.YtoacmcfildmijaaCrcL
set_option linter.unusedVariables false
set_option linter.unusedSimpArgs false
namespace Go.Proofs.Ytoacmcfildmijaa
open Go.ChangeShapes Go.WideShapes Go.ChangeAt Go.RowKit

def parts3 : List (List Byte) := [[49#8, 50#8, 51#8, 52#8], [], [53#8, 54#8, 55#8, 56#8, 57#8]]
theorem val_parts3 : nb (crcOns crcT parts3) = 3808858755 := by decide +kernel
theorem val_parts0 : nb (crcOns crcT []) = 0 := by decide +kernel
theorem val_on0 : nb (crcOn crcT 0#32 []) = 0 := by decide +kernel
theorem val_step : nb (crcStep crcT 0#32 1#8) = 4067132163 := by decide +kernel

theorem parts_3 (w : World) (A : Option Addr) (hr : RdL w A parts3) :
    Calls Try.prog 14 #[.slice A 3 3] w fun e w' => e = .returned (.int .u32 3808858755) ∧ Below w.heap.size w w' := by
  have h := crc_Parts parts3 A 3 w (by decide) (by simp [maxLen]) hr
  rw [val_parts3] at h
  exact h
theorem parts_0 (w : World) :
    Calls Try.prog 14 #[.slice none 0 0] w fun e w' => e = .returned (.int .u32 0) ∧ Below w.heap.size w w' := by
  have h := crc_Parts [] none 0 w (by decide) (by simp [maxLen]) (fun i hi => by simp at hi)
  rw [val_parts0] at h
  exact h
theorem on_0 (T : Array Value) (w : World) (hT : TabTo T 256) :
    Calls Try.prog 12 #[.agg T, .int .u32 0, .slice none 0 0] w fun e w' => e = .returned (.int .u32 0) ∧ Below w.heap.size w w' := by
  have h := crc_On T crcT 0#32 [] none 0 w (by decide) (by simp [maxLen]) (Rd.nil _ _) hT.tab
  rw [val_on0, nb_zero] at h
  exact h.mono fun e w' ⟨h1, h2⟩ => ⟨h1, h2 ▸ (FB.refl w).alloc _⟩
theorem step_1 (T : Array Value) (w : World) (hT : TabTo T 256) :
    Calls Try.prog 15 #[.agg T, .int .u32 0, .int .u8 1] w fun e w' => e = .returned (.int .u32 4067132163) ∧ Below w.heap.size w w' := by
  have h := crc_Step T crcT 0#32 1#8 w hT.tab
  rw [val_step, nb_zero, show nb 1#8 = 1 from rfl] at h
  exact h.mono fun e w' ⟨h1, h2⟩ => ⟨h1, h2 ▸ (FB.refl w).alloc _⟩
theorem rd_1234 (w : World) (t : TypeId) (g : Nat) (hg : g = w.heap.size) : Rd (w.alloc (.cells #[.int .u8 49, .int .u8 50, .int .u8 51, .int .u8 52] t (4, 5))) (some ⟨g, 0, none⟩) [49#8, 50#8, 51#8, 52#8] := RdV.litF w (vbs [49#8, 50#8, 51#8, 52#8]) t (4, 5) hg
theorem rd_56789 (w : World) (t : TypeId) (g : Nat) (hg : g = w.heap.size) : Rd (w.alloc (.cells #[.int .u8 53, .int .u8 54, .int .u8 55, .int .u8 56, .int .u8 57] t (5, 6))) (some ⟨g, 0, none⟩) [53#8, 54#8, 55#8, 56#8, 57#8] := RdV.litF w (vbs [53#8, 54#8, 55#8, 56#8, 57#8]) t (5, 6) hg
theorem rd_parts3 (w : World) (A B : Option Addr) (t : TypeId) (g : Nat) (hg : g = w.heap.size) (ha : Rd w A [49#8, 50#8, 51#8, 52#8]) (hb : Rd w B [53#8, 54#8, 55#8, 56#8, 57#8]) :
    RdL (w.alloc (.cells #[.slice A 4 4, .slice none 0 0, .slice B 5 5] t)) (some ⟨g, 0, none⟩) parts3 := by
  subst hg
  refine RdL.lit (vs := [.slice A 4 4, .slice none 0 0, .slice B 5 5]) rfl fun i hi => ?_
  match i, hi with
  | 0, _ => exact ⟨A, 4, rfl, Nat.le_refl 4, by simp [maxLen], ha⟩
  | 1, _ => exact ⟨none, 0, rfl, Nat.le_refl 0, by simp [maxLen], Rd.nil _ _⟩
  | 2, _ => exact ⟨B, 5, rfl, Nat.le_refl 5, by simp [maxLen], hb⟩
  | (n + 3), h => exact absurd h (by simp [parts3])

set_option maxRecDepth 100000 in
set_option maxHeartbeats 400000 in
theorem crcNames_walk (w : World) : Calls Try.prog 4 #[] w fun e w' => e = .returned (.bool true) ∧ Below w.heap.size w w' := by
  have hcv := conv_const
  go_enter Try.func4, Try.ntmps4
  go_wp2_with fail
  refine (crc_lives _).mono ?_
  rintro e w1 ⟨rfl, hb⟩
  have hB := (FB.refl w).call hb
  clear hb
  go_wp2_with fail
  refine (crc_Table _).mono ?_
  rintro e w2 ⟨T, rfl, hT, hb⟩
  replace hB := hB.call hb
  have HT := Lib.hid hT
  clear hb hT
  go_wp2_with fail
  refine (on_0 T _ HT.out).mono ?_
  rintro e w3 ⟨rfl, hb⟩
  replace hB := hB.call hb
  clear hb HT
  go_wp2_with fail
  refine (parts_3 _ _ (rd_parts3 _ _ _ _ _ (by simp) ((rd_1234 _ _ _ rfl).alloc _) (rd_56789 _ _ _ (by simp)))).mono ?_
  rintro e w4 ⟨rfl, hb⟩
  replace hB := (((hB.alloc _).alloc _).alloc _).call hb
  clear hb
  go_wp2_with fail
  refine (parts_0 _).mono ?_
  rintro e w5 ⟨rfl, hb⟩
  replace hB := hB.call hb
  clear hb
  go_wp2_with fail
  refine (crc_Table _).mono ?_
  rintro e w6 ⟨T', rfl, hT, hb⟩
  replace hB := hB.call hb
  have HT := Lib.hid hT
  clear hb hT
  go_wp2_with fail
  refine (step_1 T' _ HT.out).mono ?_
  rintro e w7 ⟨rfl, hb⟩
  replace hB := hB.call hb
  clear hb
  go_wp2
  go_ret
  exact ⟨rfl, hB⟩
end Go.Proofs.Ytoacmcfildmijaa
