/- record: the walk through Read. -/
import Derived.Test.YtjhgnohofcahbaaRecC
import Derived.Test.YtjhgnohofcahbaaRdrE
set_option linter.unusedVariables false
set_option linter.unusedSimpArgs false
namespace Go.Proofs.Ytjhgnohofcahbaa
open Go.ChangeShapes Go.WideShapes Go.ChangeAt Go.RowKit
attribute [local go_sem] nb_nonneg nb_lt8 nb_lt64

/-- What Read reads, one part behind the other. -/
def rdK (xs : List Byte) : List Byte × Nat × Int := sblk xs 0 0
def rdO (xs : List Byte) : BitVec 64 × Nat × Int := supto xs (rdK xs).2.1 (rdK xs).2.2 65536#64
def rdS (xs : List Byte) : BitVec 64 × Nat × Int := supto xs (rdO xs).2.1 (rdO xs).2.2 131072#64
def rdV (xs : List Byte) : List Byte × Nat × Int := if (rdO xs).1 = 0#64 then sfix xs (rdS xs).2.1 (rdS xs).2.2 (nb (rdS xs).1) else ([], (rdS xs).2.1, (rdS xs).2.2)
def rdE (xs : List Byte) : Int := rend xs (rdV xs).2.1 (rdV xs).2.2
def rdOk (xs : List Byte) : Prop := rdE xs = 0 ∧ rcheck (rdK xs).1.length (nb (rdO xs).1) (nb (rdS xs).1) (rdV xs).1.length = 0
theorem rcheck_cases (n : Nat) (o s : Int) (m : Nat) : rcheck n o s m = 0 ∨ rcheck n o s m = 2 := by
  unfold rcheck
  split
  · exact .inr rfl
  · split <;> split <;> simp
set_option maxRecDepth 100000 in
set_option maxHeartbeats 2000000 in
theorem rec_Read (xs : List Byte) (A : Option Addr) (n c : Nat) (w : World) (hn : n = xs.length) (hl : xs.length ≤ 100000000000000) (hr : Rd w A xs) :
    Calls Try.prog 13 #[.slice A n c] w fun e w' => (rdOk xs ∧ RecRes (rdK xs).1 (rdV xs).1 (nb (rdO xs).1) (nb (rdS xs).1) w e w') ∨ (¬ rdOk xs ∧ e = .returned (.tuple #[rec0, .int .i64 4]) ∧ FB w w') := by
  subst hn
  have HR := Lib.hid hr
  have HXL := Lib.hid hl
  have HO1 := Lib.hid (show (rdO xs).1.toNat ≤ 65536 from supto_le xs _ _ 65536#64)
  have HS1 := Lib.hid (show (rdS xs).1.toNat ≤ 131072 from supto_le xs _ _ 131072#64)
  have hwo : IntKind.i64.wrap (nb (rdO xs).1) = nb (rdO xs).1 := by rw [IntKind.wrap_i64]; have := HO1.out; unfold nb; omega
  have hws : IntKind.i64.wrap (nb (rdS xs).1) = nb (rdS xs).1 := by rw [IntKind.wrap_i64]; have := HS1.out; unfold nb; omega
  have HSB := Lib.hid (show 0 ≤ nb (rdS xs).1 ∧ nb (rdS xs).1 ≤ 9223372036854775807 by have := HS1.out; unfold nb; omega)
  have HK := Lib.hid (fun base g W (h : Rdr W base g xs 0 0) => oct_sBlock h hl)
  have HU := Lib.hid (fun base g W (h : Rdr W base g xs (rdK xs).2.1 (rdK xs).2.2) => show Calls Try.prog 48 #[.pointer (some ⟨g, 0, none⟩), .int .u64 65536] W _ from oct_sUpto h hl 65536#64)
  have HV := Lib.hid (fun base g W (h : Rdr W base g xs (rdO xs).2.1 (rdO xs).2.2) => show Calls Try.prog 48 #[.pointer (some ⟨g, 0, none⟩), .int .u64 131072] W _ from oct_sUpto h hl 131072#64)
  have HF := Lib.hid (fun base g W (h : Rdr W base g xs (rdS xs).2.1 (rdS xs).2.2) => oct_sFixed h hl (nb (rdS xs).1) HSB.out)
  have hvv : rdV xs = if (rdO xs).1 = 0#64 then sfix xs (rdS xs).2.1 (rdS xs).2.2 (nb (rdS xs).1) else ([], (rdS xs).2.1, (rdS xs).2.2) := rfl
  rw [show sblk xs 0 0 = rdK xs from rfl] at HK
  rw [show supto xs (rdK xs).2.1 (rdK xs).2.2 65536#64 = rdO xs from rfl] at HU
  rw [show supto xs (rdO xs).2.1 (rdO xs).2.2 131072#64 = rdS xs from rfl] at HV
  have HE := Lib.hid (fun base g W (h : Rdr W base g xs (rdV xs).2.1 (rdV xs).2.2) => show Calls Try.prog 50 #[.pointer (some ⟨g, 0, none⟩)] W fun e w' => e = .returned (.int .i64 (rdE xs)) ∧ Rdr w' base g xs (rdV xs).2.1 (rdE xs) ∧ TB g W w' from oct_End h hl)
  have hcc := rcheck_cases (rdK xs).1.length (nb (rdO xs).1) (nb (rdS xs).1) (rdV xs).1.length
  have ho0 : (nb (rdO xs).1 == 0) = decide ((rdO xs).1 = 0#64) := nb_beq0 _
  have hC1 : rdE xs = 0 → rcheck (rdK xs).1.length (nb (rdO xs).1) (nb (rdS xs).1) (rdV xs).1.length = 0 → rdOk xs := fun h1 h2 => ⟨h1, h2⟩
  have hC2 : rdE xs ≠ 0 → ¬ rdOk xs := fun h h' => h h'.1
  have hC3 : rcheck (rdK xs).1.length (nb (rdO xs).1) (nb (rdS xs).1) (rdV xs).1.length = 2 → ¬ rdOk xs := fun h h' => by have := h'.2; rw [h] at this; cases this
  generalize rdOk xs = C at *
  generalize rdE xs = ee at *
  generalize rdV xs = vv at *
  generalize rdS xs = ss at *
  generalize rdO xs = oo at *
  generalize rdK xs = kk at *
  obtain ⟨key, p1, e1⟩ := kk
  obtain ⟨ov, p2, e2⟩ := oo
  obtain ⟨sz, p3, e3⟩ := ss
  simp only at *
  have HHV := Lib.hid hvv
  have HCK := Lib.hid (fun A B c d W => rec_CheckN key vv.1 (nb ov) (nb sz) _ rfl A B c d W)
  generalize hrc : rcheck key.length (nb ov) (nb sz) vv.1.length = rc at *
  have HCC := Lib.hid hcc
  have HC1 := Lib.hid hC1
  have HC2 := Lib.hid hC2
  have HC3 := Lib.hid hC3
  have HO0 := Lib.hid ho0
  have HWO := Lib.hid hwo
  have HWS := Lib.hid hws
  clear hr hl hrc hcc hvv ho0 hC1 hC2 hC3
  go_enter Try.func13, Try.ntmps13
  go_wp2_with fail
  refine (oct_New xs A _ c _ rfl (by have := HXL.out; omega) (HR.out.alloc _)).mono ?_
  rintro e w1 ⟨g, rfl, hr, hb⟩
  have HB1 := Lib.hid (show FB (w.alloc (.cells #[.slice none 0 0, .int .i64 0, .int .i64 0, .slice none 0 0] 24)) w1 from hb)
  have HG := Lib.hid (show w.heap.size + 1 ≤ g from Nat.le_trans (by simp) hr.bg)
  have HR1 := Lib.hid hr
  clear hr hb
  go_wp2_with fail
  refine (HK.out _ g _ HR1.out).mono ?_
  rintro e w2 ⟨A2, c2, rfl, hr2, hb2, hk2, ht2, hcp, hcx⟩
  have HCAP := Lib.hid (And.intro hcp hcx)
  have HLB2 := Lib.hid (show ∀ ad, A2 = some ad → w.heap.size ≤ ad.block from fun ad ha => by have := hb2 ad ha; have := HB1.out.le; simp at this; omega)
  clear hcp hcx
  have HN2 := Lib.hid (show ∀ ad, A2 = some ad → ad.block ≠ g ∧ ad.block ≠ w.heap.size from fun ad ha => by have := hb2 ad ha; have := HR1.out.lt; have := HG.out; omega)
  have HL2 := Lib.hid (show ∀ ad, A2 = some ad → ad.block < w2.heap.size from fun ad ha => (hb2 ad ha).2)
  have HR2 := Lib.hid hr2
  have HK2 := Lib.hid hk2
  have HB2 := Lib.hid (HB1.out.tb ht2 (by have := HG.out; simp; omega))
  clear hr2 hb2 hk2 ht2
  go_wp2_with fail
  refine (HU.out _ g _ HK2.out).mono ?_
  rintro e w3 ⟨rfl, hk3, ht3⟩
  have HR3 := Lib.hid (ht3.rd HR2.out (fun ad ha => (HN2.out ad ha).1))
  have HK3 := Lib.hid hk3
  have HB3 := Lib.hid (HB2.out.tb ht3 (by have := HG.out; simp; omega))
  have HLE3 := Lib.hid ht3.le
  clear hk3 ht3
  go_wp2_with fail
  refine (HV.out _ g _ HK3.out).mono ?_
  rintro e w4 ⟨rfl, hk4, ht4⟩
  have HR4 := Lib.hid (ht4.rd HR3.out (fun ad ha => (HN2.out ad ha).1))
  have HK4 := Lib.hid hk4
  have HB4 := Lib.hid (HB3.out.tb ht4 (by have := HG.out; simp; omega))
  have HG4 := Lib.hid (show g < w4.heap.size from hk4.lt)
  have HL4 := Lib.hid (show w2.heap.size ≤ w4.heap.size from Nat.le_trans HLE3.out ht4.le)
  have HW4 := Lib.hid (show w.heap.size < w4.heap.size from by have := HB4.out.le; simp at this; omega)
  clear hk4 ht4
  by_cases h0 : ov = 0#64
  · have e0 : (nb ov == 0) = true := by rw [HO0.out]; simpa using h0
    have hv2 : vv = sfix xs p3 e3 (nb sz) := by rw [HHV.out, if_pos h0]
    rw [← hv2] at HF
    clear hv2 h0
    go_wp2_with fail
    refine (HF.out _ g _ (HK4.out.fb ((FB.refl _).alloc _))).mono ?_
    rintro e w5 ⟨B, cB, rfl, hr5, hb5, hk5, ht5⟩
    obtain ⟨nB, hnB⟩ : ∃ nB, nB = vv.1.length := ⟨_, rfl⟩
    have HNB := Lib.hid hnB
    rw [← hnB]
    have HCKz := Lib.hid (fun W => show Calls Try.prog 16 #[.agg #[.slice A2 key.length c2, .int .i64 (nb ov), .int .i64 (nb sz), .slice B nB cB]] W fun e w' => e = .returned (.int .i64 rc) ∧ FB W w' from by rw [hnB]; exact HCK.out A2 B c2 cB W)
    have HLBv := Lib.hid (show ∀ ad, B = some ad → w.heap.size ≤ ad.block from fun ad ha => by have := hb5 ad ha; have := HW4.out; simp at *; omega)
    have HNv := Lib.hid (show ∀ ad, B = some ad → ad.block ≠ g ∧ ad.block ≠ w.heap.size from fun ad ha => by have := hb5 ad ha; have := HG4.out; have := HW4.out; simp at *; omega)
    have hrow5 := (ht5.out.block w4.heap.size (by simp) (by simp; have := HG4.out; omega)).trans (heap_alloc_new _ _)
    obtain ⟨q0, q1, q2, q3⟩ := cells4 hrow5
    have f3 := frozen_row _ hrow5 3
    have hrow6 : (w5.setCell ⟨w4.heap.size, 3, none⟩ (.slice B nB cB)).heap[w4.heap.size]? = some (.cells #[.slice A2 key.length c2, .int .i64 (nb ov), .int .i64 (nb sz), .slice B nB cB] 24 (0, 0)) := by
      rw [heap_setCell_same _ _ _ _ _ _ hrow5]; rfl
    have HROW := Lib.hid hrow6
    have HRk5 := Lib.hid (ht5.rd (HR4.out.alloc _) (fun ad ha => (HN2.out ad ha).1))
    have HRk := Lib.hid ((TB.set (g := w4.heap.size) w5 3 (.slice B nB cB)).rd HRk5.out (fun ad ha => by have := HL2.out ad ha; have := HL4.out; omega))
    have HRv := Lib.hid ((TB.set (g := w4.heap.size) w5 3 (.slice B nB cB)).rd hr5 (fun ad ha => by have := hb5 ad ha; simp at this; omega))
    have HKz := Lib.hid (hk5.tb (TB.set (g := w4.heap.size) w5 3 (.slice B nB cB)) (.inr HG4.out))
    have HBz := Lib.hid (((HB4.out.alloc _).tb ht5 (by have := HG.out; simp; omega)).tb (TB.set (g := w4.heap.size) w5 3 (.slice B nB cB)) (by have := HW4.out; simp; omega))
    clear hnB hr5 hb5 hk5 ht5 hrow5 hrow6
    go_wp2_with fail
    generalize w5.setCell ⟨w4.heap.size, 3, none⟩ (.slice B nB cB) = w6 at *
    clear q0 q1 q2 q3 f3
    try go_wp2_with fail
    refine (HE.out _ g _ HKz.out).mono ?_
    rintro e w7 ⟨rfl, hk7, ht7⟩
    have HB7 := Lib.hid (HBz.out.tb ht7 (by have := HG.out; simp; omega))
    have HRk7 := Lib.hid (ht7.rd HRk.out (fun ad ha => (HN2.out ad ha).1))
    have HRv7 := Lib.hid (ht7.rd HRv.out (fun ad ha => (HNv.out ad ha).1))
    have hrow7 := (ht7.out.block w4.heap.size (Array.getElem?_eq_some_iff.1 HROW.out).1 (by simp; have := HG4.out; omega)).trans HROW.out
    obtain ⟨q0, q1, q2, q3⟩ := cells4 hrow7
    have hz7 := store_rec (.slice none 0 0) (.int .i64 0) (.int .i64 0) (.slice none 0 0) (box_row HB7.out) (by simp [Value.oneCell'])
    have HZ7 := Lib.hid (setRow_heap w7 w.heap.size _ #[.slice none 0 0, .int .i64 0, .int .i64 0, .slice none 0 0] _ _ (box_row HB7.out))
    have HROW7 := Lib.hid hrow7
    clear hk7 ht7 hrow7
    by_cases hee : ee = 0
    · have hee2 : (ee != 0) = false := by simpa using hee
      have HEE := Lib.hid hee
      clear hee
      go_wp2_with fail
      refine (HCKz.out _).mono ?_
      rintro e w8 ⟨rfl, hf⟩
      have HB8 := Lib.hid (HB7.out.trans hf)
      have HRk8 := Lib.hid (hf.rd HRk7.out)
      have HRv8 := Lib.hid (hf.rd HRv7.out)
      have hrow8 := (hf.block w4.heap.size (Array.getElem?_eq_some_iff.1 HROW7.out).1).trans HROW7.out
      clear q0 q1 q2 q3
      obtain ⟨q0, q1, q2, q3⟩ := cells4 hrow8
      clear hz7 hf HZ7 hrow8
      rcases HCC.out with rfl | rfl
      · have hs8 := store_rec (.slice A2 key.length c2) (.int .i64 (nb ov)) (.int .i64 (nb sz)) (.slice B nB cB) (box_row HB8.out) (by simp [Value.oneCell'])
        have HZ8 := Lib.hid (setRow_heap w8 w.heap.size _ #[.slice A2 key.length c2, .int .i64 (nb ov), .int .i64 (nb sz), .slice B nB cB] _ _ (box_row HB8.out))
        go_wp2_with (refine wpList_store_by rfl _ _ _ rfl _ hs8 ?_)
        try simp only [Exit.inBlock, Exit.then]
        refine bodyPost_ret (rec_ret rfl _ w.heap.size rfl _ HZ8.out) rfl ?_
        refine .inl ⟨HC1.out HEE.out (by first | rfl | trivial), A2, c2, B, cB, by rw [← HNB.out]; rfl, (TB.setRow _ _ _).rd HRk8.out (fun ad ha => (HN2.out ad ha).2), (TB.setRow _ _ _).rd HRv8.out (fun ad ha => (HNv.out ad ha).2), (((FB.refl w).alloc _).trans HB8.out).setRow (Nat.le_refl _) _, HCAP.out.1, HCAP.out.2, fun ad h => h.elim (HLB2.out ad) (HLBv.out ad)⟩
      · have hz8 := store_rec (.slice none 0 0) (.int .i64 0) (.int .i64 0) (.slice none 0 0) (box_row HB8.out) (by simp [Value.oneCell'])
        have HZ8 := Lib.hid (setRow_heap w8 w.heap.size _ #[.slice none 0 0, .int .i64 0, .int .i64 0, .slice none 0 0] _ _ (box_row HB8.out))
        go_wp2_with (refine wpList_store_by rfl _ _ _ rfl _ hz8 ?_)
        try simp only [Exit.inBlock, Exit.then]
        refine bodyPost_ret (rec_ret rfl _ w.heap.size rfl _ HZ8.out) rfl ?_
        exact .inr ⟨HC3.out (by first | rfl | trivial), rfl, ((FB.refl w).alloc _).trans HB8.out |>.setRow (Nat.le_refl _) _⟩
    · have hee2 : (ee != 0) = true := by simpa using hee
      have HEE := Lib.hid hee
      clear hee
      go_wp2_with (refine wpList_store_by rfl _ _ _ rfl _ hz7 ?_)
      try simp only [Exit.inBlock, Exit.then]
      refine bodyPost_ret (rec_ret rfl _ w.heap.size rfl _ HZ7.out) rfl ?_
      exact .inr ⟨HC2.out HEE.out, rfl, ((FB.refl w).alloc _).trans HB7.out |>.setRow (Nat.le_refl _) _⟩
  · have e0 : (nb ov == 0) = false := by rw [HO0.out]; simpa using h0
    have hv2 : vv = ([], p3, e3) := by rw [HHV.out, if_neg h0]
    have hv1 : vv.1 = [] := by rw [hv2]
    have hv21 : vv.2.1 = p3 := by rw [hv2]
    have hv22 : vv.2.2 = e3 := by rw [hv2]
    rw [hv21, hv22] at HE
    rw [hv1] at HCK
    have HV1 := Lib.hid hv1
    clear hv1 hv21 hv22 hv2
    obtain ⟨B, hB⟩ : ∃ B : Option Addr, B = none := ⟨_, rfl⟩
    obtain ⟨nB, hnB⟩ : ∃ nB, nB = 0 := ⟨_, rfl⟩
    obtain ⟨cB, hcB⟩ : ∃ cB, cB = 0 := ⟨_, rfl⟩
    have HNB := Lib.hid (show nB = vv.1.length from by rw [HV1.out]; exact hnB)
    have HCKz := Lib.hid (fun W => show Calls Try.prog 16 #[.agg #[.slice A2 key.length c2, .int .i64 (nb ov), .int .i64 (nb sz), .slice B nB cB]] W fun e w' => e = .returned (.int .i64 rc) ∧ FB W w' from by rw [hnB, hcB]; exact HCK.out A2 B c2 0 W)
    have HLBv := Lib.hid (show ∀ ad, B = some ad → w.heap.size ≤ ad.block from fun ad ha => by rw [hB] at ha; cases ha)
    have HNv := Lib.hid (show ∀ ad, B = some ad → ad.block ≠ g ∧ ad.block ≠ w.heap.size from fun ad ha => by rw [hB] at ha; cases ha)
    have HRv := Lib.hid (show Rd (w4.alloc (.cells #[.slice A2 key.length c2, .int .i64 (nb ov), .int .i64 (nb sz), .slice B nB cB] 24)) B vv.1 from by rw [HV1.out]; exact Rd.nil _ _)
    have HRk := Lib.hid (HR4.out.alloc (.cells #[.slice A2 key.length c2, .int .i64 (nb ov), .int .i64 (nb sz), .slice B nB cB] 24))
    have HKz := Lib.hid (HK4.out.fb ((FB.refl _).alloc (.cells #[.slice A2 key.length c2, .int .i64 (nb ov), .int .i64 (nb sz), .slice B nB cB] 24)))
    have HBz := Lib.hid (HB4.out.alloc (.cells #[.slice A2 key.length c2, .int .i64 (nb ov), .int .i64 (nb sz), .slice B nB cB] 24))
    have HROW := Lib.hid (heap_alloc_new w4 (.cells #[.slice A2 key.length c2, .int .i64 (nb ov), .int .i64 (nb sz), .slice B nB cB] 24))
    have hz0 : (w4.alloc (.cells #[.slice A2 key.length c2, .int .i64 (nb ov), .int .i64 (nb sz), .slice none 0 0] 24)) = w4.alloc (.cells #[.slice A2 key.length c2, .int .i64 (nb ov), .int .i64 (nb sz), .slice B nB cB] 24) := by rw [hB, hnB, hcB]
    clear hB hnB hcB h0
    go_wp2_with fail
    clear hz0
    generalize w4.alloc (.cells #[.slice A2 key.length c2, .int .i64 (nb ov), .int .i64 (nb sz), .slice B nB cB] 24) = w6 at *
    try go_wp2_with fail
    refine (HE.out _ g _ HKz.out).mono ?_
    rintro e w7 ⟨rfl, hk7, ht7⟩
    have HB7 := Lib.hid (HBz.out.tb ht7 (by have := HG.out; simp; omega))
    have HRk7 := Lib.hid (ht7.rd HRk.out (fun ad ha => (HN2.out ad ha).1))
    have HRv7 := Lib.hid (ht7.rd HRv.out (fun ad ha => (HNv.out ad ha).1))
    have hrow7 := (ht7.out.block w4.heap.size (Array.getElem?_eq_some_iff.1 HROW.out).1 (by simp; have := HG4.out; omega)).trans HROW.out
    obtain ⟨q0, q1, q2, q3⟩ := cells4 hrow7
    have hz7 := store_rec (.slice none 0 0) (.int .i64 0) (.int .i64 0) (.slice none 0 0) (box_row HB7.out) (by simp [Value.oneCell'])
    have HZ7 := Lib.hid (setRow_heap w7 w.heap.size _ #[.slice none 0 0, .int .i64 0, .int .i64 0, .slice none 0 0] _ _ (box_row HB7.out))
    have HROW7 := Lib.hid hrow7
    clear hk7 ht7 hrow7
    by_cases hee : ee = 0
    · have hee2 : (ee != 0) = false := by simpa using hee
      have HEE := Lib.hid hee
      clear hee
      go_wp2_with fail
      refine (HCKz.out _).mono ?_
      rintro e w8 ⟨rfl, hf⟩
      have HB8 := Lib.hid (HB7.out.trans hf)
      have HRk8 := Lib.hid (hf.rd HRk7.out)
      have HRv8 := Lib.hid (hf.rd HRv7.out)
      have hrow8 := (hf.block w4.heap.size (Array.getElem?_eq_some_iff.1 HROW7.out).1).trans HROW7.out
      clear q0 q1 q2 q3
      obtain ⟨q0, q1, q2, q3⟩ := cells4 hrow8
      clear hz7 hf HZ7 hrow8
      rcases HCC.out with rfl | rfl
      · have hs8 := store_rec (.slice A2 key.length c2) (.int .i64 (nb ov)) (.int .i64 (nb sz)) (.slice B nB cB) (box_row HB8.out) (by simp [Value.oneCell'])
        have HZ8 := Lib.hid (setRow_heap w8 w.heap.size _ #[.slice A2 key.length c2, .int .i64 (nb ov), .int .i64 (nb sz), .slice B nB cB] _ _ (box_row HB8.out))
        go_wp2_with (refine wpList_store_by rfl _ _ _ rfl _ hs8 ?_)
        try simp only [Exit.inBlock, Exit.then]
        refine bodyPost_ret (rec_ret rfl _ w.heap.size rfl _ HZ8.out) rfl ?_
        refine .inl ⟨HC1.out HEE.out (by first | rfl | trivial), A2, c2, B, cB, by rw [← HNB.out]; rfl, (TB.setRow _ _ _).rd HRk8.out (fun ad ha => (HN2.out ad ha).2), (TB.setRow _ _ _).rd HRv8.out (fun ad ha => (HNv.out ad ha).2), (((FB.refl w).alloc _).trans HB8.out).setRow (Nat.le_refl _) _, HCAP.out.1, HCAP.out.2, fun ad h => h.elim (HLB2.out ad) (HLBv.out ad)⟩
      · have hz8 := store_rec (.slice none 0 0) (.int .i64 0) (.int .i64 0) (.slice none 0 0) (box_row HB8.out) (by simp [Value.oneCell'])
        have HZ8 := Lib.hid (setRow_heap w8 w.heap.size _ #[.slice none 0 0, .int .i64 0, .int .i64 0, .slice none 0 0] _ _ (box_row HB8.out))
        go_wp2_with (refine wpList_store_by rfl _ _ _ rfl _ hz8 ?_)
        try simp only [Exit.inBlock, Exit.then]
        refine bodyPost_ret (rec_ret rfl _ w.heap.size rfl _ HZ8.out) rfl ?_
        exact .inr ⟨HC3.out (by first | rfl | trivial), rfl, ((FB.refl w).alloc _).trans HB8.out |>.setRow (Nat.le_refl _) _⟩
    · have hee2 : (ee != 0) = true := by simpa using hee
      have HEE := Lib.hid hee
      clear hee
      go_wp2_with (refine wpList_store_by rfl _ _ _ rfl _ hz7 ?_)
      try simp only [Exit.inBlock, Exit.then]
      refine bodyPost_ret (rec_ret rfl _ w.heap.size rfl _ HZ7.out) rfl ?_
      exact .inr ⟨HC2.out HEE.out, rfl, ((FB.refl w).alloc _).trans HB7.out |>.setRow (Nat.le_refl _) _⟩
end Go.Proofs.Ytjhgnohofcahbaa
