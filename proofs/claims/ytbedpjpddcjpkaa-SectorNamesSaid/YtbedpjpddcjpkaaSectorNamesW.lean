/- The walk of SectorNames. -/
import Derived.Test.YtbedpjpddcjpkaaDskR
import Derived.Test.YtbedpjpddcjpkaaDskN
set_option linter.unusedVariables false
set_option linter.unusedSimpArgs false
namespace Go.Proofs.Ytbedpjpddcjpkaa
open Go.ChangeShapes Go.WideShapes Go.ChangeAt Go.RowKit Go.MapKept
attribute [local go_sem] nb_nonneg nb_lt8

theorem row_x (w : World) : Calls Try.prog 12 #[.int .u8 120] w fun e w' => ∃ A, e = .returned (.slice A 512 512) ∧ Rd w' A (List.replicate 512 120#8) ∧ FB w w' :=
  (law4_row 120#8 w).mono fun e w' ⟨A, h1, h2, h3⟩ => ⟨A, h1, (Own.info h2).2.2.1, h3⟩
theorem sdRead_arg {D : DiskSt} {n : Nat} {k : Int} (h : k < 0 ∨ (n : Int) ≤ k) : sdRead D n k = ([], 2, D) := by unfold sdRead; rw [if_pos h]
theorem sdRead_io {D : DiskSt} {n : Nat} {k : Int} (h0 : 0 ≤ k) (h1 : k < n) (hf : D.fuse = some 0) : sdRead D n k = ([], 8, ⟨D.b, D.M, none⟩) := by
  unfold sdRead
  rw [if_neg (by omega), hf]; rfl
set_option maxRecDepth 100000 in
set_option maxHeartbeats 1000000 in
theorem sectorNames_walk (w : World) : Calls Try.prog 4 #[] w fun e w' => e = .returned (.bool true) ∧ Below w.heap.size w w' := by
  have hcv := @conv_const
  obtain ⟨C, hmk, hC⟩ := mk_bytes 511 511 rfl (by omega)
  clear hC
  go_enter Try.func4, Try.ntmps4
  go_wp2_with fail
  refine (dsk_New_bad 0 (by omega) _).mono ?_
  rintro e w1 ⟨rfl, rfl⟩
  go_wp2_with fail
  refine (dsk_Of_bad _ 511 _ _ (by omega) (by omega)).mono ?_
  rintro e w1 ⟨rfl, hw1⟩
  have HF1 := Lib.hid (show FB w w1 from hw1 ▸ (FB.refl w).alloc _)
  clear hw1
  go_wp2_with fail
  refine (row_x _).mono ?_
  rintro e w2 ⟨A2, rfl, hr, hb⟩
  have HR2 := Lib.hid hr
  have HF2 := Lib.hid (HF1.out.trans hb)
  clear hr hb
  go_wp2_with fail
  refine (dsk_Of_ok 1 (by omega) (by omega) A2 512 512 _ _ rfl (by rw [List.length_replicate]) HR2.out).mono ?_
  rintro e w3 ⟨F, g, rfl, hd, hb, hF⟩
  have HD3 := Lib.hid (show DW w w3 F g 1 ⟨List.replicate 512 120#8, [], none⟩ from ⟨hd, HF2.out.trans hb, fun x hx => Nat.le_trans HF2.out.le (hF x hx)⟩)
  clear hd hb hF
  go_wp2_with fail
  refine (sd_lives _).mono ?_
  rintro e w4 ⟨rfl, hb⟩
  have HD4 := Lib.hid (HD3.out.fbn hb)
  clear hb
  go_wp2_with fail
  have HQ1 := Lib.hid (dsk_Read HD4.out.dsk 1)
  rw [sdRead_arg (.inr (by simp))] at HQ1
  refine HQ1.out.mono ?_
  rintro e w5 ⟨A5, c5, rfl, -, -, hd, ht, -, -⟩
  have HD5 := Lib.hid (HD4.out.ts hd ht)
  clear hd ht HQ1
  go_wp2_with fail
  refine (dsk_Fail HD5.out.dsk 0 (by omega)).mono ?_
  rintro e w6 ⟨rfl, hres⟩
  obtain ⟨F6, hd, -, -⟩ := HD5.out.res hres
  have HD6 := Lib.hid (show DW w w6 F6 g 1 ⟨List.replicate 512 120#8, [], some 0⟩ from hd)
  clear hd hres
  go_wp2_with fail
  have HQ2 := Lib.hid (dsk_Read HD6.out.dsk 0)
  rw [sdRead_io (by omega) (by simp) rfl] at HQ2
  refine HQ2.out.mono ?_
  rintro e w7 ⟨A7, c7, rfl, -, -, hd, ht, -, -⟩
  have HD7 := Lib.hid (HD6.out.ts hd ht)
  clear hd ht HQ2
  go_wp2_with fail
  refine (dsk_Flush HD7.out.dsk).mono ?_
  rintro e w8 ⟨he, hd, ht⟩
  have HD8 := Lib.hid (show DW w w8 F6 g 1 ⟨List.replicate 512 120#8, [], none⟩ from HD7.out.ts hd ht)
  obtain rfl : e = .returned (.int .i64 0) := he
  clear hd ht
  go_wp2_with fail
  refine (dsk_Sectors HD8.out.dsk).mono ?_
  rintro e w9 ⟨rfl, rfl⟩
  go_wp2_with fail
  refine (dsk_Write HD8.out.dsk 0 none 0 0 [] rfl (by simp) (Rd.nil _ _) (fun ad ha => by cases ha)).mono ?_
  rintro e w10 ⟨he, F10, hF10, hd10, ht10⟩
  have HT10 := Lib.hid ht10
  obtain rfl : e = .returned (.int .i64 2) := he
  clear hF10 hd10 ht10
  have HEND := Lib.hid (HD8.out.fb.ts HT10.out HD8.out.own)
  go_wp2
  go_ret
  exact ⟨rfl, HEND.out⟩
end Go.Proofs.Ytbedpjpddcjpkaa
