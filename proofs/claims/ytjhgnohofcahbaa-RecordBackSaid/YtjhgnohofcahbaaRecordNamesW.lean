/- The walk of RecordNames. -/
import Derived.Test.YtjhgnohofcahbaaRecL
import Derived.Test.YtjhgnohofcahbaaMk
set_option linter.unusedVariables false
set_option linter.unusedSimpArgs false
namespace Go.Proofs.Ytjhgnohofcahbaa
open Go.ChangeShapes Go.WideShapes Go.ChangeAt Go.RowKit
attribute [local go_sem] nb_nonneg nb_lt64 nb_lt8

theorem rd_1a021 (w : World) (t : TypeId) (g : Nat) (hg : g = w.heap.size) : Rd (w.alloc (.cells #[.int .u8 1, .int .u8 97, .int .u8 0, .int .u8 2, .int .u8 1] t)) (some ⟨g, 0, none⟩) [1#8, 97#8, 0#8, 2#8, 1#8] := RdV.lit w (vbs [1#8, 97#8, 0#8, 2#8, 1#8]) t hg
theorem rd_ab2 (w : World) (t : TypeId) (g : Nat) (hg : g = w.heap.size) : Rd (w.alloc (.cells #[.int .u8 97, .int .u8 98] t (2, 3))) (some ⟨g, 0, none⟩) [97#8, 98#8] := RdV.litF w (vbs [97#8, 98#8]) t (2, 3) hg
theorem not_ok_2 : ¬ rdOk [1#8, 97#8, 0#8, 2#8, 1#8] := by
  have h1 : rdK [1#8, 97#8, 0#8, 2#8, 1#8] = ([97#8], 2, 0) := by
    unfold rdK sblk rblk
    rw [if_pos rfl, show rnum (List.drop 0 [1#8, 97#8, 0#8, 2#8, 1#8]) 0 0#64 = .inr (1#64, 1) from by decide]
    rfl
  have h2 : rdO [1#8, 97#8, 0#8, 2#8, 1#8] = (0#64, 3, 0) := by
    unfold rdO supto rupto
    rw [h1]
    simp only
    rw [if_pos trivial, show rnum (List.drop 2 [1#8, 97#8, 0#8, 2#8, 1#8]) 0 0#64 = .inr (0#64, 1) from by decide]
    rfl
  have h3 : rdS [1#8, 97#8, 0#8, 2#8, 1#8] = (2#64, 4, 0) := by
    unfold rdS supto rupto
    rw [h2]
    simp only
    rw [if_pos trivial, show rnum (List.drop 3 [1#8, 97#8, 0#8, 2#8, 1#8]) 0 0#64 = .inr (2#64, 1) from by decide]
    rfl
  have h4 : rdV [1#8, 97#8, 0#8, 2#8, 1#8] = ([], 4, 5) := by
    unfold rdV
    rw [h2, h3]; rfl
  rintro ⟨h, -⟩
  unfold rdE at h
  rw [h4] at h
  revert h; decide
theorem raw_len (ks vs : List Byte) (o s : BitVec 64) : (recRaw ks o s vs).length = (onum (BitVec.ofNat 64 ks.length)).length + ks.length + (onum o).length + (onum s).length + vs.length := by
  unfold recRaw oblock
  simp only [List.length_append]; omega
theorem onum_1 : (onum 1#64).length = 1 := by rw [onum_lt (by decide)]; rfl
theorem onum_00 : (onum 0#64).length = 1 := by rw [onum_lt (by decide)]; rfl
theorem onum_two (n : BitVec 64) (h : 128#64 ≤ n) (h2 : ¬ 128#64 ≤ n >>> 7) : (onum n).length = 2 := by rw [onum_ge h, onum_lt h2]; rfl
theorem fits_a (k : Nat) (hk : k ≤ 131072) (l : Nat) (hl : (onum (BitVec.ofNat 64 k)).length = l) : recFits [97#8] (List.replicate k 0#8) = decide (3 + l + k ≤ 1024) := by
  unfold recFits
  rw [raw_len, List.length_replicate, hl, show (onum (BitVec.ofNat 64 [97#8].length)).length = 1 from onum_1, onum_00]
  simp [hk]
set_option maxRecDepth 100000 in
set_option maxHeartbeats 1000000 in
theorem recordNames_walk (w : World) : Calls Try.prog 4 #[] w fun e w' => e = .returned (.bool true) ∧ Below w.heap.size w w' := by
  have hcv := conv_const
  obtain ⟨C, hmk, hC⟩ := mk_bytes 2000 2000 rfl (by omega)
  obtain ⟨C1, hmk1, hC1⟩ := mk_bytes 1019 1019 rfl (by omega)
  obtain ⟨C2, hmk2, hC2⟩ := mk_bytes 1020 1020 rfl (by omega)
  have HC := Lib.hid hC
  have HC1 := Lib.hid hC1
  have HC2 := Lib.hid hC2
  clear hC hC1 hC2
  have HM1 := Lib.hid (fun (A B : Option Addr) c d W (h : Rd W A [97#8]) (h2 : Rd W B (List.replicate 2000 0#8)) => show Calls Try.prog 20 #[.slice A 1 c, .slice B 2000 d, .int .i64 0] W fun e w' => e = .returned (.tuple #[.agg #[.slice none 0 0, .int .i64 0, .int .i64 0, .slice none 0 0], .int .i64 2]) ∧ FB W w' from
    rec_Make_bad [97#8] _ 0 A B 1 c 2000 d W rfl (by simp) h h2 (fun hk => by
      have := hk.2.2.2.2
      rw [fits_a 2000 (by omega) 2 (onum_two _ (by decide) (by decide))] at this
      revert this; decide))
  have HM2 := Lib.hid (fun (A : Option Addr) c W (h : Rd W A [97#8]) => show Calls Try.prog 20 #[.slice A 1 c, .slice none 0 0, .int .i64 3] W fun e w' => e = .returned (.tuple #[.agg #[.slice none 0 0, .int .i64 0, .int .i64 0, .slice none 0 0], .int .i64 2]) ∧ FB W w' from
    rec_Make_bad [97#8] [] 3 A none 1 c 0 0 W rfl rfl h (Rd.nil _ _) (fun hk => by
      have := hk.2.2.2.2
      rw [show recFits [97#8] [] = true from by have := fits_a 0 (by omega) 1 onum_00; simpa using this] at this
      revert this; decide))
  have HM3 := Lib.hid (fun (A B : Option Addr) c d W (h : Rd W A [97#8]) (h2 : Rd W B (List.replicate 2000 0#8)) => show Calls Try.prog 20 #[.slice A 1 c, .slice B 2000 d, .int .i64 3] W fun e w' => ∃ A c B d, e = .returned (.tuple #[.agg #[.slice A 1 c, .int .i64 3, .int .i64 2000, .slice B 0 d], .int .i64 0]) ∧ FB W w' from
    (rec_Make_ok [97#8] (List.replicate 2000 0#8) 3 A B 1 c 2000 d W rfl (by simp) h h2 ⟨by decide, by simp, by decide, by decide, by
      rw [fits_a 2000 (by omega) 2 (onum_two _ (by decide) (by decide))]; decide⟩).mono fun e w' ⟨A', c', B', d', h1, h2, h3, h4, _⟩ => by
      rw [if_neg (by decide), List.length_replicate] at h1
      exact ⟨A', c', B', d', h1, h4⟩)
  have HFa := Lib.hid (fun (A B : Option Addr) c d W (h : Rd W A [97#8]) (h2 : Rd W B (List.replicate 1019 0#8)) => show Calls Try.prog 18 #[.slice A 1 c, .slice B 1019 d] W fun e w' => e = .returned (.bool true) ∧ FB W w' from by
    have q := rec_Fits [97#8] (List.replicate 1019 0#8) A B 1 c 1019 d W rfl (by simp) h h2
    rw [fits_a 1019 (by omega) 2 (onum_two _ (by decide) (by decide))] at q; exact q)
  have HFb := Lib.hid (fun (A B : Option Addr) c d W (h : Rd W A [97#8]) (h2 : Rd W B (List.replicate 1020 0#8)) => show Calls Try.prog 18 #[.slice A 1 c, .slice B 1020 d] W fun e w' => e = .returned (.bool false) ∧ FB W w' from by
    have q := rec_Fits [97#8] (List.replicate 1020 0#8) A B 1 c 1020 d W rfl (by simp) h h2
    rw [fits_a 1020 (by omega) 2 (onum_two _ (by decide) (by decide))] at q; exact q)
  have HCMP := Lib.hid (fun (A B : Option Addr) c d W (h : Rd W A [97#8]) (h2 : Rd W B [97#8, 98#8]) => show Calls Try.prog 21 #[.slice A 1 c, .slice B 2 d] W fun e w' => e = .returned (.int .i64 (-1)) ∧ W = w' from rec_Compare A B c d [97#8] [97#8, 98#8] W h h2)
  have HB0 := Lib.hid (fun W => show Calls Try.prog 15 #[.agg #[.slice none 0 0, .int .i64 0, .int .i64 0, .slice none 0 0]] W fun e w' => e = .returned (.tuple #[.slice none 0 0, .int .i64 2]) ∧ FB W w' from rec_Bytes_bad none 0 0 0 0 none 0 0 W (by decide))
  have HR2 := Lib.hid (fun (A : Option Addr) c W (h : Rd W A [1#8, 97#8, 0#8, 2#8, 1#8]) => show Calls Try.prog 13 #[.slice A 5 c] W fun e w' => e = .returned (.tuple #[.agg #[.slice none 0 0, .int .i64 0, .int .i64 0, .slice none 0 0], .int .i64 4]) ∧ FB W w' from
    (rec_Read _ A 5 c W rfl (by simp) h).mono fun e w' h => by
      rcases h with ⟨h, -⟩ | ⟨-, h1, h2⟩
      · exact absurd h not_ok_2
      · exact ⟨h1, h2⟩)
  go_enter Try.func4, Try.ntmps4
  go_wp2_with fail
  refine (HB0.out _).mono ?_
  rintro e w1 ⟨rfl, hf⟩
  have HF1 := Lib.hid hf
  clear hf
  go_wp2_with fail
  refine (HR2.out _ _ _ (rd_1a021 _ _ _ (by simp))).mono ?_
  rintro e w2 ⟨rfl, hf⟩
  have HF2 := Lib.hid ((HF1.out.alloc _).trans hf)
  clear hf
  go_wp2_with fail
  refine (HM1.out _ _ _ _ _ ((rd_a1 _ _ _ (by simp)).alloc _) (rd_mk HC.out _ _ (by simp))).mono ?_
  rintro e w3 ⟨rfl, hf⟩
  have HF3 := Lib.hid ((((HF2.out.alloc _).alloc _).alloc _).trans hf)
  clear hf
  go_wp2_with fail
  refine (HM2.out _ _ _ (rd_a1 _ _ _ (by simp))).mono ?_
  rintro e w4 ⟨rfl, hf⟩
  have HF4 := Lib.hid (((HF3.out.alloc _).alloc _).trans hf)
  clear hf
  go_wp2_with fail
  refine (HM3.out _ _ _ _ _ ((rd_a1 _ _ _ (by simp)).alloc _) (rd_mk HC.out _ _ (by simp))).mono ?_
  rintro e w5 ⟨A5, c5, B5, d5, rfl, hf⟩
  have HF5 := Lib.hid ((((HF4.out.alloc _).alloc _).alloc _).trans hf)
  clear hf
  go_wp2_with fail
  refine (rec_lives _).mono ?_
  rintro e w6 ⟨rfl, hf⟩
  have HB6 := Lib.hid hf
  have HF6 := Lib.hid ((HF5.out.alloc _).trans hf)
  obtain ⟨q0, q1, q2, q3⟩ := cells4 (box_row HB6.out)
  clear hf
  go_wp2_with fail
  refine (HCMP.out _ _ _ _ _ ((rd_a1 _ _ _ (by simp)).alloc _) (rd_ab2 _ _ _ (by simp))).mono ?_
  rintro e w7 ⟨rfl, hw7⟩
  have HF7 := Lib.hid ((HF6.out.alloc (.cells #[.int .u8 97] 5 (1, 2))).alloc (.cells #[.int .u8 97, .int .u8 98] 5 (2, 3)))
  rw [hw7] at HF7
  clear hw7 q0 q1 q2 q3
  go_wp2_with fail
  refine (HFa.out _ _ _ _ _ ((rd_a1 _ _ _ (by simp)).alloc _) (rd_mk HC1.out _ _ (by simp))).mono ?_
  rintro e w8 ⟨rfl, hf⟩
  have HF8 := Lib.hid (((HF7.out.alloc _).alloc _).trans hf)
  clear hf
  go_wp2_with fail
  refine (HFb.out _ _ _ _ _ ((rd_a1 _ _ _ (by simp)).alloc _) (rd_mk HC2.out _ _ (by simp))).mono ?_
  rintro e w9 ⟨rfl, hf⟩
  have HF9 := Lib.hid (((HF8.out.alloc _).alloc _).trans hf)
  clear hf
  go_wp2
  go_ret
  exact ⟨rfl, HF9.out⟩
end Go.Proofs.Ytjhgnohofcahbaa
