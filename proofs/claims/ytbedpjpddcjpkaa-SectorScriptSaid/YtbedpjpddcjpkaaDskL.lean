/- The chapter's examples of sector. -/
import Derived.Test.YtbedpjpddcjpkaaDskP
import Derived.Test.YtbedpjpddcjpkaaStr
set_option linter.unusedVariables false
set_option linter.unusedSimpArgs false
namespace Go.Proofs.Ytbedpjpddcjpkaa
open Go.ChangeShapes Go.WideShapes Go.ChangeAt Go.RowKit Go.MapKept
attribute [local go_sem] nb_nonneg nb_lt8

/-- The disk's bytes behind the examples' crash. -/
def livB : List Byte := crashB (keptLen [true] 1 3) [(2, List.replicate 512 97#8), (0, List.replicate 512 98#8)] (List.replicate (512 * 4) 0#8) 2
theorem livB_eq : livB = splice (splice (List.replicate (512 * 4) 0#8) (512 * 2) (List.replicate 512 97#8)) (512 * 0) (List.replicate 3 98#8) := by
  unfold livB
  rw [crashB, crashB, crashB]
  simp only [List.getElem?_cons_zero, List.getElem?_cons_succ]
  rw [show keptLen [true] 1 3 0 = 512 from by decide, show keptLen [true] 1 3 1 = 3 from by decide, List.take_replicate, List.take_replicate]
  rfl
theorem livB_len1 : (splice (List.replicate (512 * 4) 0#8) (512 * 2) (List.replicate 512 97#8)).length = 512 * 4 := by
  rw [length_splice _ _ _ (by simp only [List.length_replicate]; omega), List.length_replicate]
theorem livB_len : livB.length = 512 * 4 := by
  rw [livB_eq, length_splice _ _ _ (by rw [livB_len1, List.length_replicate]; omega), livB_len1]
theorem livB_2 : sec livB 2 = List.replicate 512 97#8 := by
  rw [livB_eq, sec_splice_other livB_len1 (by omega) (by simp only [List.length_replicate]; omega) (by omega), sec_splice_same (n := 4) (by rw [List.length_replicate]) (by omega) (by rw [List.length_replicate]; exact Nat.le_refl _), List.length_replicate, sec_replicate 4 2 _ (by omega), List.drop_of_length_le (by rw [List.length_replicate]; exact Nat.le_refl _), List.append_nil]
theorem livB_0 : (sec livB 0).take 4 = [98#8, 98#8, 98#8, 0#8] := by
  rw [livB_eq, sec_splice_same livB_len1 (by omega) (by simp only [List.length_replicate]; omega), sec_splice_other (n := 4) (by rw [List.length_replicate]) (by omega) (by rw [List.length_replicate]; exact Nat.le_refl _) (by omega), sec_replicate 4 0 _ (by omega), List.length_replicate, List.drop_replicate, List.take_append, List.take_replicate, List.take_replicate, List.length_replicate]
  rfl
theorem rd_20 (w : World) (t : TypeId) (g : Nat) (hg : g = w.heap.size) : RdV (w.alloc (.cells #[.int .i64 2, .int .i64 0] t)) (some ⟨g, 0, none⟩) ([2, 0].map (.int .i64)) := RdV.lit w ([2, 0].map (.int .i64)) t hg
theorem rd_true (w : World) (t : TypeId) (g : Nat) (hg : g = w.heap.size) : RdV (w.alloc (.cells #[.bool true] t)) (some ⟨g, 0, none⟩) ([true].map .bool) := RdV.lit w ([true].map .bool) t hg
theorem new4 (w : World) : Calls Try.prog 11 #[.int .i64 4] w fun e w' => ∃ F g, e = .returned (.tuple #[.pointer (some ⟨g, 0, none⟩), .int .i64 0]) ∧ DW w w' F g 4 ⟨List.replicate (512 * 4) 0#8, [], none⟩ :=
  (dsk_New_ok 4 (by omega) (by omega) w).mono fun e w' ⟨F, g, h1, h2, h3, h4⟩ => ⟨F, g, h1, h2, h3, h4⟩
/-- Write, where it is done. -/
theorem write_ok {w0 w : World} {F : List Nat} {g n : Nat} {D : DiskSt} (h : DW w0 w F g n D) (k : Int) (h0 : 0 ≤ k) (h1 : k < n) (hf : D.fuse = none) (A : Option Addr) (ca : Nat) (xs : List Byte) (hl : xs.length = 512) (hr : Rd w A xs) (hA : ∀ ad, A = some ad → ad.block ∉ F) :
    Calls Try.prog 14 #[.pointer (some ⟨g, 0, none⟩), .int .i64 k, .slice A 512 ca] w fun e w' => e = .returned (.int .i64 0) ∧ ∃ F', DW w0 w' F' g n ⟨D.b, cput D.M k xs, none⟩ ∧ TS F w w' ∧ ∀ x ∈ F', x ∈ F ∨ w.heap.size ≤ x := by
  refine (dsk_Write h.dsk k A 512 ca xs hl.symm (by omega) hr hA).mono fun e w' ⟨e1, e2⟩ => ?_
  rw [sdWrite_ok h0 h1 hl hf] at e1 e2
  exact ⟨e1, h.res e2⟩
/-- Read, where it is done. -/
theorem read_ok {w0 w : World} {F : List Nat} {g n : Nat} {D : DiskSt} (h : DW w0 w F g n D) (k : Int) (h0 : 0 ≤ k) (h1 : k < n) (hf : D.fuse = none) (xs : List Byte) (hx : (cget D.M k).getD (sec D.b k.toNat) = xs) :
    Calls Try.prog 17 #[.pointer (some ⟨g, 0, none⟩), .int .i64 k] w fun e w' => ∃ A c, e = .returned (.tuple #[.slice A xs.length c, .int .i64 0]) ∧ Rd w' A xs ∧ (∀ ad, A = some ad → w.heap.size ≤ ad.block) ∧ DW w0 w' F g n D ∧ TS F w w' ∧ xs.length ≤ c ∧ c ≤ maxLen := by
  refine (dsk_Read h.dsk k).mono fun e w' ⟨A, c, e1, e2, e3, e4, e5, e6, e7⟩ => ?_
  rw [sdRead_ok h0 h1 hf, hx] at e1 e2 e6
  rw [sdRead_ok h0 h1 hf] at e4
  exact ⟨A, c, e1, e2, e3, h.ts e4 e5, e5, e6, e7⟩
theorem row_a (w : World) : Calls Try.prog 12 #[.int .u8 97] w fun e w' => ∃ A, e = .returned (.slice A 512 512) ∧ Rd w' A (List.replicate 512 97#8) ∧ FB w w' :=
  (law4_row 97#8 w).mono fun e w' ⟨A, h1, h2, h3⟩ => ⟨A, h1, (Own.info h2).2.2.1, h3⟩
set_option maxRecDepth 100000 in
set_option maxHeartbeats 1000000 in
theorem sd_lives (w : World) : Calls Try.prog 8 #[] w fun e w' => e = .returned (.bool true) ∧ FB w w' := by
  have hcv := @conv_const
  go_enter Try.func8, Try.ntmps8
  go_wp2_with fail
  refine (new4 _).mono ?_
  rintro e w1 ⟨F1, g, rfl, hd⟩
  have HD1 := Lib.hid hd
  clear hd
  go_wp2_with fail
  refine (law4_row 97#8 _).mono ?_
  rintro e w2 ⟨A2, rfl, ho, hb⟩
  have HO2 := Lib.hid (Own.info ho)
  have HB2 := Lib.hid hb
  clear ho hb
  go_wp2_with fail
  refine (write_ok (HD1.out.fbn HB2.out) 2 (by omega) (by omega) rfl A2 512 _ (by rw [List.length_replicate]) HO2.out.2.2.1 (fun ad ha => HD1.out.notin (HO2.out.2.2.2.2 ad ha).1)).mono ?_
  rintro e w3 ⟨rfl, F3, hd, -, -⟩
  have HD3 := Lib.hid (show DW w w3 F3 g 4 ⟨List.replicate (512 * 4) 0#8, [(2, List.replicate 512 97#8)], none⟩ from hd)
  clear hd
  go_wp2_with fail
  refine (law4_row 98#8 _).mono ?_
  rintro e w4 ⟨A4, rfl, ho, hb⟩
  have HO4 := Lib.hid (Own.info ho)
  have HB4 := Lib.hid hb
  clear ho hb
  go_wp2_with fail
  refine (write_ok (HD3.out.fbn HB4.out) 0 (by omega) (by omega) rfl A4 512 _ (by rw [List.length_replicate]) HO4.out.2.2.1 (fun ad ha => HD3.out.notin (HO4.out.2.2.2.2 ad ha).1)).mono ?_
  rintro e w5 ⟨rfl, F5, hd, -, -⟩
  have HD5 := Lib.hid (show DW w w5 F5 g 4 ⟨List.replicate (512 * 4) 0#8, [(2, List.replicate 512 97#8), (0, List.replicate 512 98#8)], none⟩ from hd)
  clear hd
  go_wp2_with fail
  refine (dsk_Cached HD5.out.dsk).mono ?_
  rintro e w6 ⟨A6, c6, rfl, hr, hb, -⟩
  have HR6 := Lib.hid (show RdV w6 A6 ([2, 0].map (.int .i64)) from hr)
  have HB6 := Lib.hid hb
  have HD6 := Lib.hid (HD5.out.fbn HB6.out)
  clear hr hb
  simp only [List.length_cons, List.length_nil]
  go_wp2_with fail
  refine (kit_Ints [2, 0] [2, 0] A6 _ _ _ _ _ _ rfl rfl (by simp) (by simp) ((FB.refl w6).alloc _ |>.rdV HR6.out) (rd_20 _ _ _ rfl)).mono ?_
  rintro e w7 ⟨rfl, hb⟩
  have HD7 := Lib.hid (HD6.out.fbn (((FB.refl w6).alloc _).trans hb))
  clear hb
  go_wp2_with fail
  refine (dsk_Image HD7.out.dsk).mono ?_
  rintro e w8 ⟨A8, c8, rfl, -, -, -, -, hb⟩
  have HD8 := Lib.hid (HD7.out.fbn hb)
  clear hb
  go_wp2_with fail
  refine (dsk_Image HD8.out.dsk).mono ?_
  rintro e w9 ⟨A9, c9, rfl, hr, -, -, -, hb⟩
  obtain ⟨b9, o9, rfl, -, hq⟩ := RdV.form hr (by rw [vbs_length, List.length_replicate]; omega)
  have hq0 := hq 0 (by rw [vbs_length, List.length_replicate]; omega)
  rw [show (vbs (List.replicate (512 * 4) 0#8))[0]'(by rw [vbs_length, List.length_replicate]; omega) = .int .u8 0 from by simp [vbs, vb, nb], Nat.add_zero] at hq0
  have HD9 := Lib.hid (HD8.out.fbn hb)
  clear hb hr hq
  go_wp2_with fail
  refine (dsk_Crash (HD9.out.fbn ((FB.refl w9).alloc _)).dsk _ _ [true] 1 3 (rd_true _ _ _ rfl) (fun ad ha => HD9.out.notin (by cases ha; exact Nat.le_refl _))).mono ?_
  rintro e w10 ⟨rfl, hd, ht⟩
  have HD10 := Lib.hid (show DW w w10 F5 g 4 ⟨livB, [], none⟩ from (HD9.out.fbn ((FB.refl w9).alloc _)).ts hd ht)
  clear hd ht hq0
  go_wp2_with fail
  refine (read_ok HD10.out 2 (by omega) (by omega) rfl _ livB_2).mono ?_
  rintro e w11 ⟨A11, c11, rfl, hr, hA, hd, ht, hc11, hm11⟩
  have HR11 := Lib.hid hr
  have HD11 := Lib.hid hd
  have HA11 := Lib.hid hA
  clear hr hd ht hA
  rw [List.length_replicate]
  go_wp2_with fail
  refine (read_ok HD11.out 0 (by omega) (by omega) rfl (sec livB 0) rfl).mono ?_
  rintro e w12 ⟨A12, c12, rfl, hr, -, hd, ht, hc12, hm12⟩
  have HR12 := Lib.hid hr
  have HD12 := Lib.hid hd
  have HR12a := Lib.hid (ht.rd HR11.out (fun ad ha => HD10.out.notin (HA11.out ad ha)))
  clear hr hd ht
  rw [sec_len (n := 4) livB_len (by omega)]
  go_wp2_with fail
  obtain ⟨W0, hW0⟩ : ∃ W0 : World, W0 = w12 := ⟨_, rfl⟩
  subst hW0
  refine region_sch (E := FB) ((0, true) :: (1, true) :: (2, true) :: (3, true) :: (4, true) :: (5, true) :: (6, true) :: (7, true) :: (8, true) :: (9, false) :: (10, true) :: (11, true) :: (12, true) :: (13, true) :: (14, true) :: (15, true) :: (16, true) :: (17, true) :: (18, true) :: (19, true) :: (20, true) :: (21, true) :: (22, true) :: []) (by kernel_rfl) FB.refl fb_trans (fun _ _ d _ _ h => by cases d <;> exact h) (by kernel_rfl) ?_
  intro ops hops0
  have hops := Lib.hid hops0
  clear hops0
  have HF : FB W0 W0.drew := (FB.refl _).drew
  generalize W0.drew = wF at *
  have HR11b := Lib.hid (FB.rd HF HR12a.out)
  have HR12b := Lib.hid (FB.rd HF HR12.out)
  have hs11 := fun W (hw : FB wF W) => run_string c11 (FB.rd hw HR11b.out)
  rw [List.length_replicate] at hs11
  have HCUT := Lib.hid (cut_hi A12 c12 (sec livB 0) 4 (by rw [sec_len (n := 4) livB_len (by omega)]; omega) hc12)
  rw [sec_len (n := 4) livB_len (by omega), show ((4 : Nat) : Int) = 4 from rfl] at HCUT
  have hs12 := fun W (hw : FB wF W) => run_string (xs := (sec livB 0).take 4) c12 (FB.rd hw (HR12b.out.take 4))
  rw [livB_0, show ([98#8, 98#8, 98#8, 0#8] : List Byte).length = 4 from rfl] at hs12
  repeat (refine sch_take (o := ?_) (v := ?_) (a' := ?_) (at_of hops.out ?_) ?_ (fun W hW => ?_) ?_ ?_; rotate_left 3; (focus (simp only [List.getElem?_toArray, List.getElem?_cons_zero, List.getElem?_cons_succ]; rfl)); (focus (rw [hops.out]; rfl)); (focus (have u1 := hs11 W hW; have u2 := hs12 W hW; have u3 := HCUT.out W; go_simp; with_reducible rfl)); (focus (simp only [Act.put, List.setIfInBounds_toArray, List.set_cons_zero, List.set_cons_succ]; rfl)))
  (refine sch_call (o := ?_) (f := ?_) (args := ?_) (at_of hops.out ?_) ?_ ?_ ?_; rotate_left 3; (focus (simp only [List.getElem?_toArray, List.getElem?_cons_zero, List.getElem?_cons_succ]; rfl)); (focus (rw [hops.out]; rfl)); (focus (go_simp; constructor <;> with_reducible rfl)); (first | ((with_reducible refine (row_a _).mono ?_); rintro e w13 ⟨A13, rfl, hr, hb⟩; have HR13 := Lib.hid hr; have HF13 := Lib.hid hb; clear hr; refine ⟨_, rfl, hb, ?_⟩; intro a' ha'; simp only [Act.put, List.setIfInBounds_toArray, List.set_cons_zero, List.set_cons_succ] at ha'; subst ha'; replace HF := HF.call hb; clear hb)))
  have hs13 := fun W (hw : FB w13 W) => run_string 512 (FB.rd hw HR13.out)
  rw [List.length_replicate] at hs13
  clear hs11
  repeat (refine sch_take (o := ?_) (v := ?_) (a' := ?_) (at_of hops.out ?_) ?_ (fun W hW => ?_) ?_ ?_; rotate_left 3; (focus (simp only [List.getElem?_toArray, List.getElem?_cons_zero, List.getElem?_cons_succ]; rfl)); (focus (rw [hops.out]; rfl)); (focus (have u1 := hs13 W hW; have u2 := hs12 W (FB.trans HF13.out hW); have u3 := HCUT.out W; go_simp; with_reducible rfl)); (focus (simp only [Act.put, List.setIfInBounds_toArray, List.set_cons_zero, List.set_cons_succ]; rfl)))
  refine sch_done ?_
  rw [show ((sb [98#8, 98#8, 98#8, 0#8]).toList == [98, 98, 98, 0]) = true from by rw [ByteArray.toList_eq]; rfl]
  have HEND := Lib.hid (HD12.out.fb.trans HF)
  clear hs12 hs13 hops HF
  go_wp2
  go_ret
  exact ⟨rfl, HEND.out⟩
end Go.Proofs.Ytbedpjpddcjpkaa
