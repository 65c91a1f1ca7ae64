/- PoolNames: the walk through the law. -/
import Derived.Test.YtoidlmhebnlnbaaPlL
set_option linter.unusedVariables false
set_option linter.unusedSimpArgs false
namespace Go.Proofs.Ytoidlmhebnlnbaa
open Go.ChangeShapes Go.WideShapes Go.ChangeAt Go.RowKit
attribute [local go_sem] nb_nonneg nb_lt8 nb_lt64
set_option maxRecDepth 100000

def nm0 : PlSt := ⟨List.replicate 8 frm0, 0, ⟨List.replicate (512 * 16) 0#8, [], none⟩⟩
def nm1 : PlSt := (plGet 16 nm0 1).2
def nm2 : PlSt := (plEvict 16 nm1 0).2
theorem nm_a : plGet 16 nm0 2 = ((none, 2), nm0) := by kernel_rfl
theorem nm_b : (plGet 16 nm0 1).1.2 = 0 := by kernel_rfl
theorem nm_c : (plGetB 16 nm0 1).length = 4096 := by kernel_rfl
theorem nm_d : plUnpin nm1 1 = (6, nm1) := by kernel_rfl
theorem nm_e : plEvict 16 nm1 8 = (2, nm1) := by kernel_rfl
theorem nm_f : plEvict 16 nm1 7 = (6, nm1) := by kernel_rfl
theorem nm_g : (plEvict 16 nm1 0).1 = 0 := by kernel_rfl
theorem nm_h : plPut 16 nm2 0 [] = (2, nm2) := by kernel_rfl
theorem nm_i : plDrop 16 nm2 5 = (2, nm2) := by kernel_rfl
set_option maxHeartbeats 2000000 in
theorem poolNames_walk (w : World) : Calls Try.prog 3 #[] w fun e w' => e = .returned (.bool true) ∧ Below w.heap.size w w' := by
  go_enter Try.func3, Try.ntmps3
  go_wp2_with fail
  refine (pl_New_nil 8 w).mono ?_
  rintro e w1 ⟨rfl, rfl⟩
  go_wp2_with fail
  refine (dsk_New_ok 16 (by omega) (by omega) w).mono ?_
  rintro e w1 ⟨F, g, rfl, hd, hf, hn⟩
  have HD := Lib.hid hd
  have HF := Lib.hid hf
  have HN := Lib.hid hn
  clear hd hf hn
  go_wp2_with fail
  refine (pl_New_arg HD.out 7 (by unfold plBad; omega)).mono ?_
  rintro e w2 ⟨rfl, rfl⟩
  go_wp2_with fail
  refine (po_New HD.out HN.out HF.out 8 (by omega) (by omega) (by omega)).mono ?_
  rintro e w2 ⟨gp, gf, rfl, hp⟩
  have HP0 := Lib.hid (show PoA w [] g 16 gp gf nm0 w2 from hp)
  clear hp HD HF HN
  go_wp2_with fail
  refine (po_Get HP0.out 2).mono ?_
  rintro e w3 ⟨A3, c3, rfl, -, -, hp, -⟩
  rw [nm_a] at hp ⊢
  have HP1 := Lib.hid hp
  clear hp HP0
  generalize (plGetB 16 nm0 2).length = m3
  go_wp2_with fail
  refine (po_Get HP1.out 1).mono ?_
  rintro e w4 ⟨A4, c4, rfl, -, -, hp, -⟩
  rw [nm_b, nm_c]
  have HP2 := Lib.hid (show PoA w [] g 16 gp gf nm1 w4 from hp)
  clear hp HP1
  go_wp2_with fail
  refine (law7_lives w4).mono ?_
  rintro e w5 ⟨rfl, hb⟩
  have HP3 := Lib.hid (HP2.out.byFB hb).1
  clear hb HP2
  go_wp2_with fail
  refine (po_Unpin HP3.out 1).mono ?_
  rintro e w6 ⟨rfl, hp, -⟩
  rw [nm_d] at hp ⊢
  have HP4 := Lib.hid hp
  clear hp HP3
  go_wp2_with fail
  refine (po_Evict HP4.out 8).mono ?_
  rintro e w7 ⟨rfl, hp, -⟩
  rw [nm_e] at hp ⊢
  have HP5 := Lib.hid hp
  clear hp HP4
  go_wp2_with fail
  refine (po_Evict HP5.out 7).mono ?_
  rintro e w8 ⟨rfl, hp, -⟩
  rw [nm_f] at hp ⊢
  have HP6 := Lib.hid hp
  clear hp HP5
  go_wp2_with fail
  refine (po_Evict HP6.out 0).mono ?_
  rintro e w9 ⟨rfl, hp, -⟩
  rw [nm_g]
  have HP7 := Lib.hid (show PoA w [] g 16 gp gf nm2 w9 from hp)
  clear hp HP6
  go_wp2_with fail
  refine (po_Put HP7.out 0 none 0 [] (by simp) (Rd.nil _ _) (fun ad ha => by cases ha)).mono ?_
  rintro e w10 ⟨rfl, hp, -⟩
  rw [nm_h] at hp ⊢
  have HP8 := Lib.hid hp
  clear hp HP7
  go_wp2_with fail
  refine (po_Drop HP8.out 5).mono ?_
  rintro e w11 ⟨rfl, hp, -⟩
  rw [nm_i] at hp ⊢
  have HP9 := Lib.hid hp.fb
  clear hp HP8
  go_wp2
  go_ret
  exact ⟨rfl, HP9.out⟩
end Go.Proofs.Ytoidlmhebnlnbaa
