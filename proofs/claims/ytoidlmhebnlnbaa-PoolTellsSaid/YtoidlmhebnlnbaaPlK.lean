/- pool, plain: the states of lives. -/
import Derived.Test.YtoidlmhebnlnbaaPlJ
set_option linter.unusedVariables false
set_option linter.unusedSimpArgs false
namespace Go.Proofs.Ytoidlmhebnlnbaa
open Go.ChangeShapes Go.WideShapes Go.ChangeAt Go.RowKit
set_option maxRecDepth 100000

def lvRow (j : Nat) : List Byte := List.replicate 4096 (BitVec.ofNat 8 j)
def lvD0 : DiskSt := ⟨List.replicate (512 * 96) 0#8, [], none⟩
def lvD1 : DiskSt := (sdSave lvD0 96 0 (lvRow 0)).2
def lvS (j : Nat) : PlSt :=
  if j ≤ 8 then ⟨[0, 1, 2, 3, 4, 5, 6, 7].map (fun i : Nat => if i < j then ⟨true, i, 0, true, true, lvRow i⟩ else frm0), 0, lvD0⟩
  else ⟨⟨true, 8, 0, true, true, lvRow 8⟩ :: [1, 2, 3, 4, 5, 6, 7].map (fun i : Nat => ⟨true, i, 0, true, false, lvRow i⟩), 1, lvD1⟩
def lvU (j : Nat) : PlSt :=
  ⟨⟨true, 8, if 8 ≤ j then 1 else 0, true, true, lvRow 8⟩ :: [1, 2, 3, 4, 5, 6, 7].map (fun i : Nat => ⟨true, i, if i ≤ j then 1 else 0, true, decide (i ≤ j), lvRow i⟩), 1, lvD1⟩
theorem lv_put0 : plPut 96 (lvS 0) ((0 : Nat) : Int) (lvRow 0) = (0, lvS (0 + 1)) := by kernel_rfl
theorem lv_put1 : plPut 96 (lvS 1) ((1 : Nat) : Int) (lvRow 1) = (0, lvS (1 + 1)) := by kernel_rfl
theorem lv_put2 : plPut 96 (lvS 2) ((2 : Nat) : Int) (lvRow 2) = (0, lvS (2 + 1)) := by kernel_rfl
theorem lv_put3 : plPut 96 (lvS 3) ((3 : Nat) : Int) (lvRow 3) = (0, lvS (3 + 1)) := by kernel_rfl
theorem lv_put4 : plPut 96 (lvS 4) ((4 : Nat) : Int) (lvRow 4) = (0, lvS (4 + 1)) := by kernel_rfl
theorem lv_put5 : plPut 96 (lvS 5) ((5 : Nat) : Int) (lvRow 5) = (0, lvS (5 + 1)) := by kernel_rfl
theorem lv_put6 : plPut 96 (lvS 6) ((6 : Nat) : Int) (lvRow 6) = (0, lvS (6 + 1)) := by kernel_rfl
theorem lv_put7 : plPut 96 (lvS 7) ((7 : Nat) : Int) (lvRow 7) = (0, lvS (7 + 1)) := by kernel_rfl
theorem lv_put8 : plPut 96 (lvS 8) ((8 : Nat) : Int) (lvRow 8) = (0, lvS (8 + 1)) := by kernel_rfl
theorem lv_pin1 : plPin 96 (lvU (1 - 1)) ((1 : Nat) : Int) = (0, lvU 1) := by kernel_rfl
theorem lv_pin2 : plPin 96 (lvU (2 - 1)) ((2 : Nat) : Int) = (0, lvU 2) := by kernel_rfl
theorem lv_pin3 : plPin 96 (lvU (3 - 1)) ((3 : Nat) : Int) = (0, lvU 3) := by kernel_rfl
theorem lv_pin4 : plPin 96 (lvU (4 - 1)) ((4 : Nat) : Int) = (0, lvU 4) := by kernel_rfl
theorem lv_pin5 : plPin 96 (lvU (5 - 1)) ((5 : Nat) : Int) = (0, lvU 5) := by kernel_rfl
theorem lv_pin6 : plPin 96 (lvU (6 - 1)) ((6 : Nat) : Int) = (0, lvU 6) := by kernel_rfl
theorem lv_pin7 : plPin 96 (lvU (7 - 1)) ((7 : Nat) : Int) = (0, lvU 7) := by kernel_rfl
theorem lv_pin8 : plPin 96 (lvU (8 - 1)) ((8 : Nat) : Int) = (0, lvU 8) := by kernel_rfl
theorem lv_put (j : Nat) (hj : j < 9) : plPut 96 (lvS j) (j : Int) (lvRow j) = (0, lvS (j + 1)) := by
  have : j = 0 ∨ j = 1 ∨ j = 2 ∨ j = 3 ∨ j = 4 ∨ j = 5 ∨ j = 6 ∨ j = 7 ∨ j = 8 := by omega
  rcases this with rfl | rfl | rfl | rfl | rfl | rfl | rfl | rfl | rfl
  · exact lv_put0
  · exact lv_put1
  · exact lv_put2
  · exact lv_put3
  · exact lv_put4
  · exact lv_put5
  · exact lv_put6
  · exact lv_put7
  · exact lv_put8
theorem lv_pin (j : Nat) (h0 : 1 ≤ j) (hj : j < 9) : plPin 96 (lvU (j - 1)) (j : Int) = (0, lvU j) := by
  have : j = 1 ∨ j = 2 ∨ j = 3 ∨ j = 4 ∨ j = 5 ∨ j = 6 ∨ j = 7 ∨ j = 8 := by omega
  rcases this with rfl | rfl | rfl | rfl | rfl | rfl | rfl | rfl
  · exact lv_pin1
  · exact lv_pin2
  · exact lv_pin3
  · exact lv_pin4
  · exact lv_pin5
  · exact lv_pin6
  · exact lv_pin7
  · exact lv_pin8
theorem lv_U0 : lvS 9 = lvU 0 := by kernel_rfl
theorem lv_M : lvD1.M.length = 8 := by kernel_rfl
theorem lv_get : (plGet 96 (lvU 8) 9).1.2 = 9 := by kernel_rfl
theorem lv_D : lvS 0 = ⟨List.replicate 8 frm0, 0, ⟨List.replicate (512 * 96) 0#8, [], none⟩⟩ := by kernel_rfl
end Go.Proofs.Ytoidlmhebnlnbaa
