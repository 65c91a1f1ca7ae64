/- The walk of OctetBounds. -/
import Derived.Test.YtegmpejcolmnoaaRdrD
import Derived.Test.YtegmpejcolmnoaaOctW
import Derived.Test.YtegmpejcolmnoaaKit
import Derived.Test.YtegmpejcolmnoaaRowP
set_option linter.unusedVariables false
set_option linter.unusedSimpArgs false
namespace Go.Proofs.Ytegmpejcolmnoaa
open Go.ChangeShapes Go.WideShapes Go.ChangeAt Go.RowKit
attribute [local go_sem] nb_nonneg nb_lt64 nb_lt8

section
variable {xs : List Byte} {base g k : Nat} {w : World} (h : Rdr w base g xs k 0) (hl : xs.length ≤ 100000000000000)
include h hl
theorem b_Number : Calls Try.prog 40 #[.pointer (some ⟨g, 0, none⟩)] w fun e w' => ∃ (x : BitVec 64) (k' : Nat) (er' : Int), e = .returned (.int .u64 (nb x)) ∧ Rdr w' base g xs k' er' ∧ TB g w w' ∧ k ≤ k' :=
  (oct_RNumber h hl).mono fun e w' ⟨h1, h2, h3⟩ => ⟨_, _, _, h1, h2, h3, Nat.le_add_right _ _⟩
theorem b_Upto (m : BitVec 64) : Calls Try.prog 46 #[.pointer (some ⟨g, 0, none⟩), .int .u64 (nb m)] w fun e w' => ∃ (x : BitVec 64) (k' : Nat) (er' : Int), e = .returned (.int .u64 (nb x)) ∧ Rdr w' base g xs k' er' ∧ TB g w w' ∧ k ≤ k' :=
  (oct_Upto h hl m).mono fun e w' ⟨h1, h2, h3⟩ => ⟨_, _, _, h1, h2, h3, by unfold rupto; split <;> (try split) <;> simp⟩
theorem b_Word (z : Int) : Calls Try.prog 41 #[.pointer (some ⟨g, 0, none⟩), .int .i64 z] w fun e w' => ∃ (x : BitVec 64) (k' : Nat) (er' : Int), e = .returned (.int .u64 (nb x)) ∧ Rdr w' base g xs k' er' ∧ TB g w w' ∧ k ≤ k' := by
  by_cases hz : z = 2 ∨ z = 4 ∨ z = 8
  · obtain ⟨n, rfl, hn⟩ : ∃ n : Nat, z = (n : Int) ∧ (n = 2 ∨ n = 4 ∨ n = 8) := ⟨z.toNat, by omega, by omega⟩
    by_cases hk : k + n ≤ xs.length
    · exact (oct_RWord_ok h n hn hk hl).mono fun e w' ⟨h1, h2, h3⟩ => ⟨_, _, _, h1, h2, h3, Nat.le_add_right _ _⟩
    · exact (oct_RWord_more h n hn (by omega) hl).mono fun e w' ⟨h1, h2, h3⟩ => ⟨0#64, _, _, by rw [nb_zero]; exact h1, h2, h3, Nat.le_refl _⟩
  · exact (oct_RWord_bad h z hz).mono fun e w' ⟨h1, h2, h3⟩ => ⟨0#64, _, _, by rw [nb_zero]; exact h1, h2, h3, Nat.le_refl _⟩
theorem b_Block : Calls Try.prog 42 #[.pointer (some ⟨g, 0, none⟩)] w fun e w' => ∃ (A : Option Addr) (n c k' : Nat) (er' : Int), e = .returned (.slice A n c) ∧ n ≤ xs.length ∧ Rdr w' base g xs k' er' ∧ TB g w w' ∧ k ≤ k' :=
  (oct_RBlock h hl).mono fun e w' ⟨v, h1, h2, h3, h4⟩ => by
    obtain ⟨A, c, rfl, -, -, -, -⟩ := Own.form h2
    refine ⟨A, _, c, _, _, h1, ?_, h3, h4, ?_⟩
    · unfold rblk; split
      · simp
      · split
        · simp
        · simp; omega
    · unfold rblk; split
      · simp
      · split <;> simp <;> omega
theorem b_Fixed (z : Int) (hz : -9223372036854775808 ≤ z ∧ z ≤ 9223372036854775807) : Calls Try.prog 47 #[.pointer (some ⟨g, 0, none⟩), .int .i64 z] w fun e w' => ∃ (A : Option Addr) (n c k' : Nat) (er' : Int), e = .returned (.slice A n c) ∧ n ≤ xs.length ∧ Rdr w' base g xs k' er' ∧ TB g w w' ∧ k ≤ k' := by
  by_cases hk : (xs.length : Int) - k < z
  · exact (oct_Fixed_more h z hk hz.2 hl).mono fun e w' ⟨v, h1, h2, h3, h4⟩ => by
      obtain ⟨A, c, rfl, -, -, -, -⟩ := Own.form h2
      exact ⟨A, _, c, _, _, h1, by simp, h3, h4, Nat.le_refl _⟩
  · have hle := h.le
    exact (oct_Fixed_ok h z z.toNat (by omega) (by omega) hl).mono fun e w' ⟨v, h1, h2, h3, h4⟩ => by
      obtain ⟨A, c, rfl, -, -, -, -⟩ := Own.form h2
      exact ⟨A, _, c, _, _, h1, by rw [List.length_take, List.length_drop]; omega, h3, h4, Nat.le_add_right _ _⟩
end
set_option maxRecDepth 100000 in
set_option maxHeartbeats 8000000 in
theorem octetBounds_few (A0 : Option Addr) (c0 : Nat) (xs : List Byte) (A1 : Option Addr) (n1 c1 : Nat) (K N : Nat → Int) (w : World) (h0 : xs.length ≤ 3000) (h1 : n1 ≤ 60) (hc0 : xs.length ≤ c0) (hm0 : c0 ≤ maxLen) (hr0 : Rd w A0 xs) (hr1 : RdP w A1 n1 K N)
    (hw1 : ∀ i, i < n1 → (-9223372036854775808 ≤ K i ∧ K i ≤ 9223372036854775807) ∧ (-9223372036854775808 ≤ N i ∧ N i ≤ 9223372036854775807)) :
    Calls Try.prog 12 #[.slice A0 xs.length c0, .slice A1 n1 c1] w fun e w' => e = .returned (.bool true) ∧ Below w.heap.size w w' := by
  have HR0 := Lib.hid hr0
  have HR1 := Lib.hid hr1
  have HW1 := Lib.hid hw1
  have HXB := Lib.hid (show xs.length ≤ 100000000000000 by omega)
  clear hr0 hr1 hw1
  go_enter Try.func12, Try.ntmps12
  go_wp2_with fail
  refine (oct_lives _).mono ?_
  rintro e w1 ⟨rfl, hb⟩
  have HB1 := Lib.hid ((FB.refl w).call hb)
  clear hb
  go_wp2_with fail
  refine (kit_Own xs A0 c0 _ hc0 (by omega) (HB1.out.rd HR0.out)).mono ?_
  rintro e w2 ⟨A2, c2, rfl, ho, hb⟩
  have HB2 := Lib.hid (HB1.out.call hb)
  have HO2 := Lib.hid (Own.info ho)
  clear ho hb
  go_wp2_with fail
  refine (oct_New xs A2 _ c2 _ rfl (by omega) HO2.out.2.2.1).mono ?_
  rintro e w3 ⟨g, rfl, hr, hb⟩
  have HR3 := Lib.hid hr
  have HB3 := Lib.hid (HB2.out.call hb)
  have HG := Lib.hid (show w.heap.size ≤ g from Nat.le_trans HB2.out.le hr.bg)
  clear hr hb HO2
  go_wp2
  go_loopw [6] (fun i wr => ∃ (j k : Nat) (er : Int), j ≤ n1 ∧ i = .int .i64 j ∧ Hid (Rdr wr w2.heap.size g xs k er) ∧ Hid (FB w wr)) (fun i _ => n1 - (intOf i).toNat)
  case atStart => exact ⟨0, 0, 0, by omega, rfl, HR3.out, HB3.out⟩
  case round =>
    obtain ⟨j, k, er, hj, rfl, HR, HB⟩ := hrel
    by_cases hlt : j < n1
    · have hkl : k ≤ xs.length := HR.out.le
      have hjx : (j : Int) < (n1 : Int) := by omega
      go_wp2_with fail
      refine (oct_Err HR.out).mono ?_
      rintro e w4 ⟨rfl, rfl⟩
      go_wp2_with fail
      refine (oct_Left HR.out HXB.out).mono ?_
      rintro e w5 ⟨rfl, hf⟩
      have HR5 := Lib.hid (HR.out.fb hf)
      have HB5 := Lib.hid (HB.out.trans hf)
      clear hf
      obtain ⟨b1, o1, rfl, hK, hN⟩ := HR1.out.fb HB5.out j hlt
      have hKb := (HW1.out j hlt).1
      have hNb := (HW1.out j hlt).2
      generalize K j = kk at *
      generalize N j = zz at *
      have HNB := Lib.hid hNb
      go_wp2_with fail
      refine (kit_Pick kk 6 _ (by omega) (by omega)).mono ?_
      rintro e w6 ⟨rfl, rfl⟩
      have hp0 : 0 ≤ pick kk 6 ∧ pick kk 6 < 6 := by rw [show pick kk 6 = kk % 6 from by unfold pick; rw [if_neg (by omega)]]; omega
      generalize pick kk 6 = pk at *
      obtain ⟨mz, hmz⟩ : ∃ mz : BitVec 64, IntKind.u64.wrap zz = nb mz := nb_of_int (by rw [wrap_u64]; omega) (by rw [wrap_u64]; omega)
      clear hK
      by_cases her : er = 0
      · subst her
        have hsw : pk = 0 ∨ pk = 1 ∨ pk = 2 ∨ pk = 3 ∨ pk = 4 ∨ pk = 5 := by omega
        clear hp0
        rcases hsw with rfl | rfl | rfl | rfl | rfl | rfl
        · go_wp2_with fail
          refine (b_Number HR5.out HXB.out).mono ?_
          rintro e w7 ⟨x, k', er', rfl, hr, hb, hkk⟩
          have HRk := Lib.hid hr
          have HBk := Lib.hid (HB5.out.tb hb HG.out)
          obtain ⟨nv, hnv⟩ : ∃ nv : Int, (nb x).tmod 2 = nv := ⟨_, rfl⟩
          have hnvb : 0 ≤ nv ∧ nv ≤ 1 := by rw [← hnv, Int.tmod_eq_emod_of_nonneg (nb_nonneg x)]; omega
          have hnv0 := hnvb.1
          have hnv1 : nv ≤ xs.length + 1 := by omega
          have hwv : IntKind.i64.wrap nv = nv := by rw [IntKind.wrap_i64]; omega
          clear hr hb hnvb
          have hkl' : k' ≤ xs.length := HRk.out.le
          have hd1 : decide ((xs.length : Int) - (k : Int) < (xs.length : Int) - (k' : Int)) = false := by simp; omega
          have hd2 : decide ((xs.length : Int) - (k' : Int) < 0) = false := by simp; omega
          have hd3 : decide ((xs.length : Int) + 1 < nv) = false := by simp; omega
          have hd4 : decide ((xs.length : Int) + 1 < 0) = false := by simp; omega
          go_wp2_with fail
          refine (oct_Left HRk.out HXB.out).mono ?_
          rintro e wl ⟨rfl, hf⟩
          have HRl := Lib.hid (HRk.out.fb hf)
          have HBl := Lib.hid (HBk.out.trans hf)
          clear hf
          go_wp2_with fail
          refine (oct_Left HRl.out HXB.out).mono ?_
          rintro e wm ⟨rfl, hf⟩
          have HRm := Lib.hid (HRl.out.fb hf)
          have HBm := Lib.hid (HBl.out.trans hf)
          clear hf
          go_wp2
          go_roundw
          case rel => exact ⟨j + 1, k', er', by omega, by go_num, HRm.out, HBm.out⟩
          case measure => simp [intOf]; omega
        · go_wp2_with fail
          refine (b_Upto HR5.out HXB.out mz).mono ?_
          rintro e w7 ⟨x, k', er', rfl, hr, hb, hkk⟩
          have HRk := Lib.hid hr
          have HBk := Lib.hid (HB5.out.tb hb HG.out)
          obtain ⟨nv, hnv⟩ : ∃ nv : Int, (nb x).tmod 2 = nv := ⟨_, rfl⟩
          have hnvb : 0 ≤ nv ∧ nv ≤ 1 := by rw [← hnv, Int.tmod_eq_emod_of_nonneg (nb_nonneg x)]; omega
          have hnv0 := hnvb.1
          have hnv1 : nv ≤ xs.length + 1 := by omega
          have hwv : IntKind.i64.wrap nv = nv := by rw [IntKind.wrap_i64]; omega
          clear hr hb hnvb
          have hkl' : k' ≤ xs.length := HRk.out.le
          have hd1 : decide ((xs.length : Int) - (k : Int) < (xs.length : Int) - (k' : Int)) = false := by simp; omega
          have hd2 : decide ((xs.length : Int) - (k' : Int) < 0) = false := by simp; omega
          have hd3 : decide ((xs.length : Int) + 1 < nv) = false := by simp; omega
          have hd4 : decide ((xs.length : Int) + 1 < 0) = false := by simp; omega
          go_wp2_with fail
          refine (oct_Left HRk.out HXB.out).mono ?_
          rintro e wl ⟨rfl, hf⟩
          have HRl := Lib.hid (HRk.out.fb hf)
          have HBl := Lib.hid (HBk.out.trans hf)
          clear hf
          go_wp2_with fail
          refine (oct_Left HRl.out HXB.out).mono ?_
          rintro e wm ⟨rfl, hf⟩
          have HRm := Lib.hid (HRl.out.fb hf)
          have HBm := Lib.hid (HBl.out.trans hf)
          clear hf
          go_wp2
          go_roundw
          case rel => exact ⟨j + 1, k', er', by omega, by go_num, HRm.out, HBm.out⟩
          case measure => simp [intOf]; omega
        · go_wp2_with fail
          refine (b_Word HR5.out HXB.out zz).mono ?_
          rintro e w7 ⟨x, k', er', rfl, hr, hb, hkk⟩
          have HRk := Lib.hid hr
          have HBk := Lib.hid (HB5.out.tb hb HG.out)
          obtain ⟨nv, hnv⟩ : ∃ nv : Int, (nb x).tmod 2 = nv := ⟨_, rfl⟩
          have hnvb : 0 ≤ nv ∧ nv ≤ 1 := by rw [← hnv, Int.tmod_eq_emod_of_nonneg (nb_nonneg x)]; omega
          have hnv0 := hnvb.1
          have hnv1 : nv ≤ xs.length + 1 := by omega
          have hwv : IntKind.i64.wrap nv = nv := by rw [IntKind.wrap_i64]; omega
          clear hr hb hnvb
          have hkl' : k' ≤ xs.length := HRk.out.le
          have hd1 : decide ((xs.length : Int) - (k : Int) < (xs.length : Int) - (k' : Int)) = false := by simp; omega
          have hd2 : decide ((xs.length : Int) - (k' : Int) < 0) = false := by simp; omega
          have hd3 : decide ((xs.length : Int) + 1 < nv) = false := by simp; omega
          have hd4 : decide ((xs.length : Int) + 1 < 0) = false := by simp; omega
          go_wp2_with fail
          refine (oct_Left HRk.out HXB.out).mono ?_
          rintro e wl ⟨rfl, hf⟩
          have HRl := Lib.hid (HRk.out.fb hf)
          have HBl := Lib.hid (HBk.out.trans hf)
          clear hf
          go_wp2_with fail
          refine (oct_Left HRl.out HXB.out).mono ?_
          rintro e wm ⟨rfl, hf⟩
          have HRm := Lib.hid (HRl.out.fb hf)
          have HBm := Lib.hid (HBl.out.trans hf)
          clear hf
          go_wp2
          go_roundw
          case rel => exact ⟨j + 1, k', er', by omega, by go_num, HRm.out, HBm.out⟩
          case measure => simp [intOf]; omega
        · go_wp2_with fail
          refine (b_Block HR5.out HXB.out).mono ?_
          rintro e w7 ⟨A7, n7, c7, k', er', rfl, hn7, hr, hb, hkk⟩
          have HRk := Lib.hid hr
          have HBk := Lib.hid (HB5.out.tb hb HG.out)
          obtain ⟨nv, hnv⟩ : ∃ nv : Int, nv = (n7 : Int) := ⟨_, rfl⟩
          have hnv0 : 0 ≤ nv := by omega
          have hnv1 : nv ≤ xs.length + 1 := by omega
          have hd5 : decide ((xs.length : Int) + 1 < (n7 : Int)) = false := by simp; omega
          clear hr hb hnv
          have hkl' : k' ≤ xs.length := HRk.out.le
          have hd1 : decide ((xs.length : Int) - (k : Int) < (xs.length : Int) - (k' : Int)) = false := by simp; omega
          have hd2 : decide ((xs.length : Int) - (k' : Int) < 0) = false := by simp; omega
          have hd3 : decide ((xs.length : Int) + 1 < nv) = false := by simp; omega
          have hd4 : decide ((xs.length : Int) + 1 < 0) = false := by simp; omega
          go_wp2_with fail
          refine (oct_Left HRk.out HXB.out).mono ?_
          rintro e wl ⟨rfl, hf⟩
          have HRl := Lib.hid (HRk.out.fb hf)
          have HBl := Lib.hid (HBk.out.trans hf)
          clear hf
          go_wp2_with fail
          refine (oct_Left HRl.out HXB.out).mono ?_
          rintro e wm ⟨rfl, hf⟩
          have HRm := Lib.hid (HRl.out.fb hf)
          have HBm := Lib.hid (HBl.out.trans hf)
          clear hf
          go_wp2
          go_roundw
          case rel => exact ⟨j + 1, k', er', by omega, by go_num, HRm.out, HBm.out⟩
          case measure => simp [intOf]; omega
        · go_wp2_with fail
          refine (b_Fixed HR5.out HXB.out zz HNB.out).mono ?_
          rintro e w7 ⟨A7, n7, c7, k', er', rfl, hn7, hr, hb, hkk⟩
          have HRk := Lib.hid hr
          have HBk := Lib.hid (HB5.out.tb hb HG.out)
          obtain ⟨nv, hnv⟩ : ∃ nv : Int, nv = (n7 : Int) := ⟨_, rfl⟩
          have hnv0 : 0 ≤ nv := by omega
          have hnv1 : nv ≤ xs.length + 1 := by omega
          have hd5 : decide ((xs.length : Int) + 1 < (n7 : Int)) = false := by simp; omega
          clear hr hb hnv
          have hkl' : k' ≤ xs.length := HRk.out.le
          have hd1 : decide ((xs.length : Int) - (k : Int) < (xs.length : Int) - (k' : Int)) = false := by simp; omega
          have hd2 : decide ((xs.length : Int) - (k' : Int) < 0) = false := by simp; omega
          have hd3 : decide ((xs.length : Int) + 1 < nv) = false := by simp; omega
          have hd4 : decide ((xs.length : Int) + 1 < 0) = false := by simp; omega
          go_wp2_with fail
          refine (oct_Left HRk.out HXB.out).mono ?_
          rintro e wl ⟨rfl, hf⟩
          have HRl := Lib.hid (HRk.out.fb hf)
          have HBl := Lib.hid (HBk.out.trans hf)
          clear hf
          go_wp2_with fail
          refine (oct_Left HRl.out HXB.out).mono ?_
          rintro e wm ⟨rfl, hf⟩
          have HRm := Lib.hid (HRl.out.fb hf)
          have HBm := Lib.hid (HBl.out.trans hf)
          clear hf
          go_wp2
          go_roundw
          case rel => exact ⟨j + 1, k', er', by omega, by go_num, HRm.out, HBm.out⟩
          case measure => simp [intOf]; omega
        · go_wp2_with fail
          refine (oct_End HR5.out HXB.out).mono ?_
          rintro e w7 ⟨rfl, hr, hb⟩
          have HRk := Lib.hid hr
          have HBk := Lib.hid (HB5.out.tb hb HG.out)
          obtain ⟨k', hk'⟩ : ∃ k', k' = k := ⟨_, rfl⟩
          obtain ⟨er', her'⟩ : ∃ er', er' = rend xs k 0 := ⟨_, rfl⟩
          rw [← her', ← hk'] at HRk
          have hkk : k ≤ k' := by omega
          obtain ⟨nv, hnv⟩ : ∃ nv : Int, nv = 0 := ⟨_, rfl⟩
          have hnv0 : 0 ≤ nv := by omega
          have hnv1 : nv ≤ xs.length + 1 := by omega
          rw [← her']
          clear hr hb hk' her' hnv
          have hkl' : k' ≤ xs.length := HRk.out.le
          have hd1 : decide ((xs.length : Int) - (k : Int) < (xs.length : Int) - (k' : Int)) = false := by simp; omega
          have hd2 : decide ((xs.length : Int) - (k' : Int) < 0) = false := by simp; omega
          have hd3 : decide ((xs.length : Int) + 1 < nv) = false := by simp; omega
          have hd4 : decide ((xs.length : Int) + 1 < 0) = false := by simp; omega
          go_wp2_with fail
          refine (oct_Left HRk.out HXB.out).mono ?_
          rintro e wl ⟨rfl, hf⟩
          have HRl := Lib.hid (HRk.out.fb hf)
          have HBl := Lib.hid (HBk.out.trans hf)
          clear hf
          go_wp2_with fail
          refine (oct_Left HRl.out HXB.out).mono ?_
          rintro e wm ⟨rfl, hf⟩
          have HRm := Lib.hid (HRl.out.fb hf)
          have HBm := Lib.hid (HBl.out.trans hf)
          clear hf
          go_wp2
          go_roundw
          case rel => exact ⟨j + 1, k', er', by omega, by go_num, HRm.out, HBm.out⟩
          case measure => simp [intOf]; omega
      · have HER := Lib.hid her
        have hne : (er != 0) = true := by simpa using her
        have hd3 : decide ((xs.length : Int) + 1 < 0) = false := by simp; omega
        have hd2 : decide ((xs.length : Int) - (k : Int) < 0) = false := by simp; omega
        clear her
        have hsw : pk = 0 ∨ pk = 1 ∨ pk = 2 ∨ pk = 3 ∨ pk = 4 ∨ pk = 5 := by omega
        clear hp0
        rcases hsw with rfl | rfl | rfl | rfl | rfl | rfl
        · go_wp2_with fail
          refine (oct_RNumber_err HR5.out HER.out).mono ?_
          rintro e w7 ⟨rfl, rfl⟩
          have HRk := Lib.hid HR5.out
          have HBk := Lib.hid HB5.out
          go_wp2_with fail
          refine (oct_Left HRk.out HXB.out).mono ?_
          rintro e wl ⟨rfl, hf⟩
          have HRl := Lib.hid (HRk.out.fb hf)
          have HBl := Lib.hid (HBk.out.trans hf)
          clear hf
          go_wp2_with fail
          refine (oct_Left HRl.out HXB.out).mono ?_
          rintro e wm ⟨rfl, hf⟩
          have HRm := Lib.hid (HRl.out.fb hf)
          have HBm := Lib.hid (HBl.out.trans hf)
          clear hf
          go_wp2_with fail
          refine (oct_Err HRm.out).mono ?_
          rintro e wo ⟨rfl, rfl⟩
          go_wp2_with fail
          refine (oct_Left HRm.out HXB.out).mono ?_
          rintro e wn ⟨rfl, hf⟩
          have HRn := Lib.hid (HRm.out.fb hf)
          have HBn := Lib.hid (HBm.out.trans hf)
          clear hf
          go_wp2
          go_roundw
          case rel => exact ⟨j + 1, k, er, by omega, by go_num, HRn.out, HBn.out⟩
          case measure => simp [intOf]; omega
        · go_wp2_with fail
          refine (oct_Upto_err HR5.out HER.out (nb mz)).mono ?_
          rintro e w7 ⟨rfl, rfl⟩
          have HRk := Lib.hid HR5.out
          have HBk := Lib.hid HB5.out
          go_wp2_with fail
          refine (oct_Left HRk.out HXB.out).mono ?_
          rintro e wl ⟨rfl, hf⟩
          have HRl := Lib.hid (HRk.out.fb hf)
          have HBl := Lib.hid (HBk.out.trans hf)
          clear hf
          go_wp2_with fail
          refine (oct_Left HRl.out HXB.out).mono ?_
          rintro e wm ⟨rfl, hf⟩
          have HRm := Lib.hid (HRl.out.fb hf)
          have HBm := Lib.hid (HBl.out.trans hf)
          clear hf
          go_wp2_with fail
          refine (oct_Err HRm.out).mono ?_
          rintro e wo ⟨rfl, rfl⟩
          go_wp2_with fail
          refine (oct_Left HRm.out HXB.out).mono ?_
          rintro e wn ⟨rfl, hf⟩
          have HRn := Lib.hid (HRm.out.fb hf)
          have HBn := Lib.hid (HBm.out.trans hf)
          clear hf
          go_wp2
          go_roundw
          case rel => exact ⟨j + 1, k, er, by omega, by go_num, HRn.out, HBn.out⟩
          case measure => simp [intOf]; omega
        · go_wp2_with fail
          refine (oct_RWord_err HR5.out HER.out zz).mono ?_
          rintro e w7 ⟨rfl, rfl⟩
          have HRk := Lib.hid HR5.out
          have HBk := Lib.hid HB5.out
          go_wp2_with fail
          refine (oct_Left HRk.out HXB.out).mono ?_
          rintro e wl ⟨rfl, hf⟩
          have HRl := Lib.hid (HRk.out.fb hf)
          have HBl := Lib.hid (HBk.out.trans hf)
          clear hf
          go_wp2_with fail
          refine (oct_Left HRl.out HXB.out).mono ?_
          rintro e wm ⟨rfl, hf⟩
          have HRm := Lib.hid (HRl.out.fb hf)
          have HBm := Lib.hid (HBl.out.trans hf)
          clear hf
          go_wp2_with fail
          refine (oct_Err HRm.out).mono ?_
          rintro e wo ⟨rfl, rfl⟩
          go_wp2_with fail
          refine (oct_Left HRm.out HXB.out).mono ?_
          rintro e wn ⟨rfl, hf⟩
          have HRn := Lib.hid (HRm.out.fb hf)
          have HBn := Lib.hid (HBm.out.trans hf)
          clear hf
          go_wp2
          go_roundw
          case rel => exact ⟨j + 1, k, er, by omega, by go_num, HRn.out, HBn.out⟩
          case measure => simp [intOf]; omega
        · go_wp2_with fail
          refine (oct_RBlock_err HR5.out HER.out).mono ?_
          rintro e w7 ⟨rfl, rfl⟩
          have HRk := Lib.hid HR5.out
          have HBk := Lib.hid HB5.out
          go_wp2_with fail
          refine (oct_Left HRk.out HXB.out).mono ?_
          rintro e wl ⟨rfl, hf⟩
          have HRl := Lib.hid (HRk.out.fb hf)
          have HBl := Lib.hid (HBk.out.trans hf)
          clear hf
          go_wp2_with fail
          refine (oct_Left HRl.out HXB.out).mono ?_
          rintro e wm ⟨rfl, hf⟩
          have HRm := Lib.hid (HRl.out.fb hf)
          have HBm := Lib.hid (HBl.out.trans hf)
          clear hf
          go_wp2_with fail
          refine (oct_Err HRm.out).mono ?_
          rintro e wo ⟨rfl, rfl⟩
          go_wp2_with fail
          refine (oct_Left HRm.out HXB.out).mono ?_
          rintro e wn ⟨rfl, hf⟩
          have HRn := Lib.hid (HRm.out.fb hf)
          have HBn := Lib.hid (HBm.out.trans hf)
          clear hf
          go_wp2
          go_roundw
          case rel => exact ⟨j + 1, k, er, by omega, by go_num, HRn.out, HBn.out⟩
          case measure => simp [intOf]; omega
        · go_wp2_with fail
          refine (oct_Fixed_err HR5.out HER.out zz).mono ?_
          rintro e w7 ⟨rfl, rfl⟩
          have HRk := Lib.hid HR5.out
          have HBk := Lib.hid HB5.out
          go_wp2_with fail
          refine (oct_Left HRk.out HXB.out).mono ?_
          rintro e wl ⟨rfl, hf⟩
          have HRl := Lib.hid (HRk.out.fb hf)
          have HBl := Lib.hid (HBk.out.trans hf)
          clear hf
          go_wp2_with fail
          refine (oct_Left HRl.out HXB.out).mono ?_
          rintro e wm ⟨rfl, hf⟩
          have HRm := Lib.hid (HRl.out.fb hf)
          have HBm := Lib.hid (HBl.out.trans hf)
          clear hf
          go_wp2_with fail
          refine (oct_Err HRm.out).mono ?_
          rintro e wo ⟨rfl, rfl⟩
          go_wp2_with fail
          refine (oct_Left HRm.out HXB.out).mono ?_
          rintro e wn ⟨rfl, hf⟩
          have HRn := Lib.hid (HRm.out.fb hf)
          have HBn := Lib.hid (HBm.out.trans hf)
          clear hf
          go_wp2
          go_roundw
          case rel => exact ⟨j + 1, k, er, by omega, by go_num, HRn.out, HBn.out⟩
          case measure => simp [intOf]; omega
        · go_wp2_with fail
          refine (oct_End HR5.out HXB.out).mono ?_
          rw [show rend xs k er = er from by unfold rend; rw [if_neg (fun h => HER.out h.1)]]
          rintro e w7 ⟨rfl, hr, hb⟩
          replace HR5 := Lib.hid hr
          replace HB5 := Lib.hid (HB5.out.tb hb HG.out)
          clear hr hb
          have HRk := Lib.hid HR5.out
          have HBk := Lib.hid HB5.out
          go_wp2_with fail
          refine (oct_Left HRk.out HXB.out).mono ?_
          rintro e wl ⟨rfl, hf⟩
          have HRl := Lib.hid (HRk.out.fb hf)
          have HBl := Lib.hid (HBk.out.trans hf)
          clear hf
          go_wp2_with fail
          refine (oct_Left HRl.out HXB.out).mono ?_
          rintro e wm ⟨rfl, hf⟩
          have HRm := Lib.hid (HRl.out.fb hf)
          have HBm := Lib.hid (HBl.out.trans hf)
          clear hf
          go_wp2_with fail
          refine (oct_Err HRm.out).mono ?_
          rintro e wo ⟨rfl, rfl⟩
          go_wp2_with fail
          refine (oct_Left HRm.out HXB.out).mono ?_
          rintro e wn ⟨rfl, hf⟩
          have HRn := Lib.hid (HRm.out.fb hf)
          have HBn := Lib.hid (HBm.out.trans hf)
          clear hf
          go_wp2
          go_roundw
          case rel => exact ⟨j + 1, k, er, by omega, by go_num, HRn.out, HBn.out⟩
          case measure => simp [intOf]; omega
    · obtain rfl : j = n1 := by omega
      go_wp2
      go_ret
      exact ⟨rfl, HB.out⟩
set_option maxRecDepth 100000 in
set_option maxHeartbeats 400000 in
theorem octetBounds_much (A0 : Option Addr) (c0 : Nat) (xs : List Byte) (A1 : Option Addr) (n1 c1 : Nat) (w : World) (h : 3000 < xs.length ∨ (xs.length ≤ 3000 ∧ 60 < n1)) :
    Calls Try.prog 12 #[.slice A0 xs.length c0, .slice A1 n1 c1] w fun e w' => e = .returned (.bool true) ∧ Below w.heap.size w w' := by
  rcases h with h | ⟨h, h'⟩
  all_goals
    go_enter Try.func12, Try.ntmps12
    go_wp2_with fail
    refine (oct_lives _).mono ?_
    rintro e w1 ⟨rfl, hb⟩
    have HBW := Lib.hid ((FB.refl w).call hb)
    clear hb
    go_wp2
    go_ret
    exact ⟨rfl, HBW.out⟩
theorem octetBounds_walk (A0 : Option Addr) (c0 : Nat) (xs : List Byte) (A1 : Option Addr) (n1 c1 : Nat) (K N : Nat → Int) (w : World) (hc0 : xs.length ≤ c0) (hm0 : c0 ≤ maxLen) (hr0 : Rd w A0 xs) (hc1 : n1 ≤ c1) (hm1 : c1 ≤ maxLen) (hr1 : RdP w A1 n1 K N)
    (hw1 : ∀ i, i < n1 → (-9223372036854775808 ≤ K i ∧ K i ≤ 9223372036854775807) ∧ (-9223372036854775808 ≤ N i ∧ N i ≤ 9223372036854775807)) :
    Calls Try.prog 12 #[.slice A0 xs.length c0, .slice A1 n1 c1] w fun e w' => e = .returned (.bool true) ∧ Below w.heap.size w w' := by
  by_cases h : xs.length ≤ 3000 ∧ n1 ≤ 60
  · exact octetBounds_few A0 c0 xs A1 n1 c1 K N w h.1 h.2 hc0 hm0 hr0 hr1 hw1
  · exact octetBounds_much A0 c0 xs A1 n1 c1 w (by omega)
end Go.Proofs.Ytegmpejcolmnoaa
