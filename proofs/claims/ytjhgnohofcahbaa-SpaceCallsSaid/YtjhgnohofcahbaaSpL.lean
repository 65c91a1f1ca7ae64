/- space: a space in a variable; lives. -/
import Derived.Test.YtjhgnohofcahbaaSpJ
set_option linter.unusedVariables false
set_option linter.unusedSimpArgs false
namespace Go.Proofs.Ytjhgnohofcahbaa
open Go.ChangeShapes Go.WideShapes Go.ChangeAt Go.RowKit
set_option maxRecDepth 100000

/-- Block g is a variable that holds this space. -/
def SpB (W : World) (g : Nat) (P : Int) (us : List Bool) : Prop :=
  ∃ A c, W.heap[g]? = some (.cells #[.int .i64 P, .slice A us.length c] 41 (0, 0)) ∧ RdV W A (us.map .bool) ∧ us.length ≤ c ∧ c ≤ maxLen
theorem SpB.lt {W : World} {g : Nat} {P : Int} {us : List Bool} (h : SpB W g P us) : g < W.heap.size := by
  obtain ⟨A, c, h1, -⟩ := h; exact (Array.getElem?_eq_some_iff.1 h1).1
theorem SpB.fb {W W' : World} {g : Nat} {P : Int} {us : List Bool} (h : SpB W g P us) (hb : FB W W') : SpB W' g P us := by
  obtain ⟨A, c, h1, h2, h3, h4⟩ := h
  exact ⟨A, c, (hb.block _ (Array.getElem?_eq_some_iff.1 h1).1).trans h1, hb.rdV h2, h3, h4⟩
/-- Bools are no space. -/
theorem RdV.ne_sp {W : World} {g : Nat} {x : Int} {k : IntKind} {A B : Option Addr} {n c : Nat} {t : TypeId} {fr : Nat × Nat} {us : List Bool} (hg : W.heap[g]? = some (.cells #[.int k x, .slice B n c] t fr)) (h : RdV W A (us.map .bool)) (hu : 0 < us.length) :
    ∀ ad, A = some ad → ad.block ≠ g := by
  intro ad ha e
  obtain ⟨b, o, e2, -, h2⟩ := RdV.form h (by simpa using hu)
  rw [ha] at e2; cases e2
  simp only at e
  subst e
  have := h2 0 (by simpa using hu)
  rw [cell_of_row _ _ _ _ _ _ hg] at this
  match o with
  | 0 => simp at this
  | 1 => simp at this
  | o + 2 => simp at this
theorem RdV.over {W W' : World} {g : Nat} {x : Int} {k : IntKind} {A B : Option Addr} {n c : Nat} {t : TypeId} {fr : Nat × Nat} {us : List Bool} (hg : W.heap[g]? = some (.cells #[.int k x, .slice B n c] t fr)) (h : RdV W A (us.map .bool)) (ht : TS [g] W W') : RdV W' A (us.map .bool) := by
  by_cases hu : 0 < us.length
  · exact ht.rdV h (fun ad ha hm => RdV.ne_sp hg h hu ad ha (by simpa using hm))
  · have : us = [] := List.eq_nil_of_length_eq_zero (by omega)
    subst this; exact RdV.nil _ _
theorem SpB.over {W W' : World} {g g' : Nat} {P : Int} {us : List Bool} {x : Int} {k : IntKind} {B : Option Addr} {n c : Nat} {t : TypeId} {fr : Nat × Nat} (h : SpB W g P us) (hg : W.heap[g']? = some (.cells #[.int k x, .slice B n c] t fr)) (ht : TS [g'] W W') (hn : g ≠ g') : SpB W' g P us := by
  obtain ⟨A, c, h1, h2, h3, h4⟩ := h
  exact ⟨A, c, (ht.block _ (Array.getElem?_eq_some_iff.1 h1).1 (by simpa using hn)).trans h1, RdV.over hg h2 ht, h3, h4⟩
theorem ts_row (g : Nat) (W : World) (cs : Array Value) : TS [g] W (W.setRow g cs) := TS.tb (TB.setRow g W cs) (by simp)
theorem SpB.put {W : World} {g : Nat} {P : Int} {us : List Bool} {x : Int} {k : IntKind} {A B : Option Addr} {n c d : Nat} (hg : W.heap[g]? = some (.cells #[.int k x, .slice B n c] 41 (0, 0))) (hr : RdV W A (us.map .bool)) (h1 : us.length ≤ d) (h2 : d ≤ maxLen) : SpB (W.setRow g #[.int .i64 P, .slice A us.length d]) g P us :=
  ⟨A, d, setRow_heap W g _ #[.int .i64 P, .slice A us.length d] _ _ hg, RdV.over hg hr (ts_row g W _), h1, h2⟩
theorem SpB.new {W : World} {g : Nat} {P : Int} {us : List Bool} {A : Option Addr} {c : Nat} (hr : RdV W A (us.map .bool)) (h1 : us.length ≤ c) (h2 : c ≤ maxLen) (hg : g = W.heap.size) : SpB (W.alloc (.cells #[.int .i64 P, .slice A us.length c] 41)) g P us := by
  subst hg
  exact ⟨A, c, heap_alloc_new _ _, ((FB.refl W).alloc _).rdV hr, h1, h2⟩
def liv0 : List Bool := [true, true, false, false, false, false, false, false]
def liv1 : List Bool := [true, true, true, false, false, false, false, false]
def liv2 : List Bool := [true, true, true, true, false, false, false, false]
theorem liv_n : spNew 8 = (8, liv0, 0) := rfl
theorem liv_t0 : spTake 8 liv0 = (2, (8, liv1), 0) := by decide
theorem liv_t1 : spTake 8 liv1 = (3, (8, liv2), 0) := by decide
theorem liv_b : spBytesR 8 liv2 = ([8#8, 0#8, 0#8, 0#8, 15#8], 0) := by decide
theorem liv_r : spRead [8#8, 0#8, 0#8, 0#8, 14#8] = (0, [], 4) := by decide
theorem tk0 (A : Option Addr) (c : Nat) (w : World) (hr : RdV w A (liv0.map .bool)) : Calls Try.prog 35 #[.agg #[.int .i64 8, .slice A liv0.length c]] w fun e w' => SpT (2, (8, liv1), 0) w e w' := by
  have h := sp_Take 8 liv0 A c w hr (by decide)
  rw [liv_t0] at h; exact h
theorem tk1 (A : Option Addr) (c : Nat) (w : World) (hr : RdV w A (liv1.map .bool)) : Calls Try.prog 35 #[.agg #[.int .i64 8, .slice A liv1.length c]] w fun e w' => SpT (3, (8, liv2), 0) w e w' := by
  have h := sp_Take 8 liv1 A c w hr (by decide)
  rw [liv_t1] at h; exact h
theorem tk2 (A : Option Addr) (c : Nat) (w : World) (hr : RdV w A (liv2.map .bool)) : Calls Try.prog 24 #[.agg #[.int .i64 8, .slice A liv2.length c]] w fun e w' => SpBy ([8#8, 0#8, 0#8, 0#8, 15#8], 0) w e w' := by
  have h := sp_Bytes 8 liv2 A c w hr (by decide)
  rw [liv_b] at h; exact h
theorem tk3 (A : Option Addr) (c : Nat) (w : World) (hr : Rd w A [8#8, 0#8, 0#8, 0#8, 14#8]) : Calls Try.prog 23 #[.slice A 5 c] w fun e w' => SpR (0, [], 4) w e w' := by
  have h := sp_Read [8#8, 0#8, 0#8, 0#8, 14#8] A c w hr (by decide)
  rw [liv_r] at h; exact h
set_option maxHeartbeats 1000000 in
theorem sp_lives (w : World) : Calls Try.prog 22 #[] w fun e w' => e = .returned (.bool true) ∧ FB w w' := by
  have h1 := sp_New 8 w
  rw [liv_n] at h1
  have H1 := Lib.hid h1
  clear h1
  go_enter Try.func22, Try.ntmps22
  go_wp2_with fail
  refine H1.out.mono ?_
  rintro e w1 ⟨A1, c1, rfl, hr1, hc1, hm1, hb1⟩
  have HF := Lib.hid (hb1.alloc (.cells #[.int .i64 8, .slice A1 liv0.length c1] 41))
  obtain ⟨A, c, hrow, hrd, hlc, hcm⟩ := SpB.new (P := 8) (us := liv0) hr1 hc1 hm1 rfl
  have HRW := Lib.hid hrow
  have HC := Lib.hid (tk0 A c _ hrd)
  have HSZ := Lib.hid hb1.le
  obtain ⟨q0, q1⟩ := row2 hrow
  clear hrow hrd hlc hcm hr1 hc1 hm1 hb1 H1
  go_wp2_with fail
  refine HC.out.mono ?_
  rintro e w2 ⟨A2, c2, rfl, hr2, hc2, hm2, hb2⟩
  have hrow2 := (hb2.block _ (Array.getElem?_eq_some_iff.1 HRW.out).1).trans HRW.out
  have hst := sp_store (.int .i64 8) (.slice A2 liv1.length c2) hrow2 (by simp [Value.oneCell'])
  have HF2 := Lib.hid ((HF.out.trans hb2).setRow (g := w1.heap.size) HSZ.out #[.int .i64 8, .slice A2 liv1.length c2])
  obtain ⟨B2, d2, hrw, hrd, hlc, hcm⟩ := SpB.put (P := 8) (us := liv1) hrow2 hr2 hc2 hm2
  have HRW2 := Lib.hid hrw
  have HC2 := Lib.hid (tk1 B2 d2 _ hrd)
  clear q0 q1
  obtain ⟨q0, q1⟩ := row2 hrw
  clear hrow2 hrw hrd hlc hcm hr2 hc2 hm2 hb2 HF HRW HC
  go_wp2_with (refine wpList_store_by rfl _ _ _ rfl _ hst ?_)
  refine HC2.out.mono ?_
  rintro e w3 ⟨A3, c3, rfl, hr3, hc3, hm3, hb3⟩
  have hrow3 := (hb3.block _ (Array.getElem?_eq_some_iff.1 HRW2.out).1).trans HRW2.out
  have hst := sp_store (.int .i64 8) (.slice A3 liv2.length c3) hrow3 (by simp [Value.oneCell'])
  have HF3 := Lib.hid ((HF2.out.trans hb3).setRow (g := w1.heap.size) HSZ.out #[.int .i64 8, .slice A3 liv2.length c3])
  obtain ⟨B3, d3, hrw, hrd, hlc, hcm⟩ := SpB.put (P := 8) (us := liv2) hrow3 hr3 hc3 hm3
  have HC3 := Lib.hid (tk2 B3 d3 _ hrd)
  clear q0 q1
  obtain ⟨q0, q1⟩ := row2 hrw
  clear hrow3 hrw hrd hlc hcm hr3 hc3 hm3 hb3 HF2 HRW2 HC2
  go_wp2_with (refine wpList_store_by rfl _ _ _ rfl _ hst ?_)
  refine HC3.out.mono ?_
  rintro e w4 ⟨A4, c4, rfl, hr4, hc4, hm4, hb4⟩
  replace hr4 : Rd w4 A4 [8#8, 0#8, 0#8, 0#8, 15#8] := hr4
  have HF4 := Lib.hid (HF3.out.trans hb4)
  have HF5 := Lib.hid (HF4.out.alloc (.cells #[.int .u8 8, .int .u8 0, .int .u8 0, .int .u8 0, .int .u8 14] 5))
  have HR4 := Lib.hid hr4
  have HC5 := Lib.hid (tk3 (some ⟨w4.heap.size, 0, none⟩) 5 (w4.alloc (.cells #[.int .u8 8, .int .u8 0, .int .u8 0, .int .u8 0, .int .u8 14] 5)) (RdV.lit w4 (vbs [8#8, 0#8, 0#8, 0#8, 14#8]) 5 rfl))
  have HR5 := Lib.hid (((FB.refl w4).alloc (.cells #[.int .u8 8, .int .u8 0, .int .u8 0, .int .u8 0, .int .u8 14] 5)).rd hr4)
  clear hr4 hc4 hm4 hb4 HF3 HC3 q0 q1 hst
  go_wp2_with fail
  refine HC5.out.mono ?_
  rintro e w5 ⟨A5, c5, rfl, hr5, hc5, hm5, hb5⟩
  have HF6 := Lib.hid ((HF5.out.trans hb5).alloc (.cells #[.int .i64 0, .slice A5 0 c5] 41))
  have hs4 : (convert 22 9 (.slice A4 5 c4)).run Try.prog (w5.alloc (.cells #[.int .i64 0, .slice A5 0 c5] 41)) = .ok (.string { data := #[8, 0, 0, 0, 15] }) (w5.alloc (.cells #[.int .i64 0, .slice A5 0 c5] 41)) := run_string c4 (((FB.refl w5).alloc _).rd (hb5.rd HR5.out))
  clear hr5 hc5 hm5 hb5
  go_wp2
  go_ret
  exact ⟨rfl, HF6.out⟩
end Go.Proofs.Ytjhgnohofcahbaa
