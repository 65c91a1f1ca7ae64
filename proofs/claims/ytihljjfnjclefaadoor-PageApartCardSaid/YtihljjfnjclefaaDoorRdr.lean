/- A reader: its block; the walks through New, made, ready, fail, Left, Err, End. -/
import Derived.Test.YtihljjfnjclefaaDoorOctA
import Derived.Test.YtihljjfnjclefaaDoorTb
import Derived.Maps.AppendAt
set_option linter.unusedVariables false
set_option linter.unusedSimpArgs false
namespace Go.Proofs.YtihljjfnjclefaaDoor
open Go.ChangeShapes Go.WideShapes Go.ChangeAt Go.RowKit

/-- A reader at block g: its bytes, which lie from block 'base' on and before g; its place; its error. -/
structure Rdr (w : World) (base g : Nat) (xs : List Byte) (k : Nat) (e : Int) : Prop where
  row : ∃ A c, w.heap[g]? = some (.cells #[.slice A xs.length c, .int .i64 k, .int .i64 e, .bool true] 86 (0, 0)) ∧ xs.length ≤ c ∧ c ≤ maxLen ∧ Rd w A xs ∧ ∀ ad, A = some ad → base ≤ ad.block ∧ ad.block < g
  le : k ≤ xs.length
  bg : base ≤ g
  er : -9223372036854775808 ≤ e ∧ e ≤ 9223372036854775807
theorem Rdr.lt {w : World} {base g : Nat} {xs : List Byte} {k : Nat} {e : Int} (h : Rdr w base g xs k e) : g < w.heap.size := by
  obtain ⟨A, c, h1, _⟩ := h.row
  exact (Array.getElem?_eq_some_iff.1 h1).1
/-- Another block is written. -/
theorem Rdr.tb {w w' : World} {base g g' : Nat} {xs : List Byte} {k : Nat} {e : Int} (h : Rdr w base g xs k e) (hk : TB g' w w') (hg : g' < base ∨ g < g') : Rdr w' base g xs k e := by
  obtain ⟨A, c, h1, h2, h3, h4, h5⟩ := h.row
  have hbg := h.bg
  refine ⟨⟨A, c, (hk.out.block _ h.lt (by simp; omega)).trans h1, h2, h3, hk.rd h4 (fun ad e => by have := h5 ad e; omega), h5⟩, h.le, h.bg, h.er⟩
theorem Rdr.fb {w w' : World} {base g : Nat} {xs : List Byte} {k : Nat} {e : Int} (h : Rdr w base g xs k e) (hk : FB w w') : Rdr w' base g xs k e := by
  obtain ⟨A, c, h1, h2, h3, h4, h5⟩ := h.row
  exact ⟨⟨A, c, (hk.block _ h.lt).trans h1, h2, h3, hk.rd h4, h5⟩, h.le, h.bg, h.er⟩
/-- The place, or the error, is written. -/
theorem Rdr.put {w : World} {base g : Nat} {xs : List Byte} {k : Nat} {e : Int} (h : Rdr w base g xs k e) (k' : Nat) (hk : k' ≤ xs.length) : Rdr (w.setCell ⟨g, 1, none⟩ (.int .i64 k')) base g xs k' e := by
  obtain ⟨A, c, h1, h2, h3, h4, h5⟩ := h.row
  refine ⟨⟨A, c, ?_, h2, h3, (TB.set w 1 _).rd h4 (fun ad e => by have := h5 ad e; omega), h5⟩, hk, h.bg, h.er⟩
  rw [heap_setCell_same w g 1 _ _ _ h1]
  rfl
theorem Rdr.fail {w : World} {base g : Nat} {xs : List Byte} {k : Nat} {e : Int} (h : Rdr w base g xs k e) (e' : Int) (he : -9223372036854775808 ≤ e' ∧ e' ≤ 9223372036854775807) : Rdr (w.setCell ⟨g, 2, none⟩ (.int .i64 e')) base g xs k e' := by
  obtain ⟨A, c, h1, h2, h3, h4, h5⟩ := h.row
  refine ⟨⟨A, c, ?_, h2, h3, (TB.set w 2 _).rd h4 (fun ad e => by have := h5 ad e; omega), h5⟩, h.le, h.bg, he⟩
  rw [heap_setCell_same w g 2 _ _ _ h1]
  rfl
/-- What the walk is given of a reader: its four cells, which may be written. -/
theorem Rdr.cells {w : World} {base g : Nat} {xs : List Byte} {k : Nat} {e : Int} (h : Rdr w base g xs k e) : ∃ A c,
    w.cell? ⟨g, 0, none⟩ = some (.slice A xs.length c) ∧ w.cell? ⟨g, 1, none⟩ = some (.int .i64 k) ∧ w.cell? ⟨g, 2, none⟩ = some (.int .i64 e) ∧ w.cell? ⟨g, 3, none⟩ = some (.bool true) ∧
    w.frozen? ⟨g, 1, none⟩ = false ∧ w.frozen? ⟨g, 2, none⟩ = false ∧ xs.length ≤ c ∧ c ≤ maxLen ∧ Hid (Rd w A xs) ∧ Hid (∀ ad, A = some ad → base ≤ ad.block ∧ ad.block < g) := by
  obtain ⟨A, c, h1, h2, h3, h4, h5⟩ := h.row
  exact ⟨A, c, by rw [cell_of_row _ _ _ _ _ _ h1]; rfl, by rw [cell_of_row _ _ _ _ _ _ h1]; rfl, by rw [cell_of_row _ _ _ _ _ _ h1]; rfl, by rw [cell_of_row _ _ _ _ _ _ h1]; rfl, frozen_row _ h1 _, frozen_row _ h1 _, h2, h3, h4, h5⟩

set_option maxRecDepth 100000 in
set_option maxHeartbeats 400000 in
theorem oct_New (xs : List Byte) (A : Option Addr) (n c : Nat) (w : World) (hn : n = xs.length) (hm : xs.length ≤ 140737488355328) (hr : Rd w A xs) :
    Calls Tryd.prog 39 #[.slice A n c] w fun e w' => ∃ g, e = .returned (.pointer (some ⟨g, 0, none⟩)) ∧ Rdr w' w.heap.size g xs 0 0 ∧ Below w.heap.size w w' := by
  subst hn
  have HR := Lib.hid hr
  clear hr
  go_enter Tryd.func39, Tryd.ntmps39
  go_wp2_with fail
  refine (sl_Clone xs A _ c _ rfl hm HR.out).mono ?_
  rintro e w1 ⟨A', c', rfl, ho, hb⟩
  have HO0 := Lib.hid ho
  have HB0 := Lib.hid hb
  clear ho hb
  go_wp2
  go_ret
  obtain ⟨h1, h2, h3, -, h5⟩ := Own.info HO0.out
  refine ⟨w1.heap.size, rfl, ⟨⟨A', c', heap_alloc_new _ _, h1, h2, h3.alloc _, h5⟩, by omega, FB.le HB0.out, by omega⟩, FB.alloc HB0.out _⟩

set_option maxRecDepth 100000 in
set_option maxHeartbeats 400000 in
theorem oct_made {xs : List Byte} {base g k : Nat} {er : Int} {w : World} (h : Rdr w base g xs k er) :
    Calls Tryd.prog 77 #[.pointer (some ⟨g, 0, none⟩)] w fun e w' => e = .returned (.bool true) ∧ w = w' := by
  obtain ⟨A, c, h0, h1, h2, h3, f1, f2, hc, hm, HR, HB⟩ := h.cells
  clear h
  go_enter Tryd.func77, Tryd.ntmps77
  go_wp2
  go_ret
  exact ⟨rfl, rfl⟩
set_option maxRecDepth 100000 in
set_option maxHeartbeats 400000 in
theorem oct_ready {xs : List Byte} {base g k : Nat} {er : Int} {w : World} (h : Rdr w base g xs k er) :
    Calls Tryd.prog 63 #[.pointer (some ⟨g, 0, none⟩)] w fun e w' => e = .returned (.bool (er == 0)) ∧ w = w' := by
  obtain ⟨A, c, h0, h1, h2, h3, f1, f2, hc, hm, HR, HB⟩ := h.cells
  have H := Lib.hid h
  clear h
  go_enter Tryd.func63, Tryd.ntmps63
  go_wp2_with fail
  refine (oct_made H.out).mono ?_
  rintro e w1 ⟨rfl, rfl⟩
  go_wp2
  go_ret
  exact ⟨rfl, rfl⟩
set_option maxRecDepth 100000 in
set_option maxHeartbeats 400000 in
theorem oct_fail {xs : List Byte} {base g k : Nat} {er : Int} {w : World} (h : Rdr w base g xs k er) (e' : Int) :
    Calls Tryd.prog 64 #[.pointer (some ⟨g, 0, none⟩), .int .i64 e'] w fun e w' => e = .returned (.tuple #[]) ∧ w.setCell ⟨g, 2, none⟩ (.int .i64 e') = w' := by
  obtain ⟨A, c, h0, h1, h2, h3, f1, f2, hc, hm, HR, HB⟩ := h.cells
  clear h
  go_enter Tryd.func64, Tryd.ntmps64
  go_wp2
  exact bodyPost_end (results_none rfl _ _ _) rfl ⟨rfl, rfl⟩
end Go.Proofs.YtihljjfnjclefaaDoor
