/- The reference's disk: the walk through Crash. -/
import Derived.Test.YtbedpjpddcjpkaaRfi
import Derived.Deep.DeepCutAuto
set_option linter.unusedVariables false
set_option linter.unusedSimpArgs false
namespace Go.Proofs.Ytbedpjpddcjpkaa
open Go.ChangeShapes Go.WideShapes Go.ChangeAt Go.RowKit Go.MapKept
set_option maxRecDepth 100000

theorem box3' {w : World} {a b c : Value} {t : TypeId} {W : World} (h : FB (w.alloc (.cells #[a, b, c] t)) W) : W.heap[w.heap.size]? = some (.cells #[a, b, c] t (0, 0)) := by
  rw [h.block _ (by simp)]; exact heap_alloc_new _ _
/-- Is a cached sector kept? is it torn? -/
def keptB (keep : List Bool) (j : Nat) : Bool := keep.getD j false
def tornB (torn bytes : Int) (j : Nat) : Bool := decide ((j : Int) = torn ∧ 0 ≤ bytes ∧ bytes ≤ 512)
theorem keptLen_eq (keep : List Bool) (torn bytes : Int) (j : Nat) : keptLen keep torn bytes j = if tornB torn bytes j then bytes.toNat else if keptB keep j then 512 else 0 := by
  unfold keptLen tornB keptB
  simp only [decide_eq_true_eq]
section
variable {w : World} {F : List Nat} {g n : Nat} {D : DiskSt}
set_option maxHeartbeats 4000000 in
theorem ref_Crash (h : RDsk w F g n D) (KA : Option Addr) (kc : Nat) (keep : List Bool) (torn bytes : Int) (hkr : RdV w KA (keep.map .bool)) (hKF : ∀ ad, KA = some ad → 0 < keep.length → ad.block ∉ F) (hkl : keep.length ≤ 1000000000) :
    Calls Try.prog 28 #[.pointer (some ⟨g, 0, none⟩), .agg #[.slice KA keep.length kc, .int .i64 torn, .int .i64 bytes]] w fun e w' => e = .returned (.int .i64 0) ∧ RDsk w' F g n ⟨crashB (keptLen keep torn bytes) D.M D.b D.M.length, [], none⟩ ∧ TS F w w' := by
  have hF := h.lt
  have HNB := Lib.hid (show w.heap.size ∉ F from fun hm => by have := hF _ hm; omega)
  have hfb := (FB.refl w).alloc (.cells #[.slice KA keep.length kc, .int .i64 torn, .int .i64 bytes] 25)
  have hb := h.fb hfb
  have HKR := Lib.hid (hfb.rdV hkr)
  have HT0 := Lib.hid (TS.of (F := F) hfb)
  have HBX := Lib.hid (heap_alloc_new w (.cells #[.slice KA keep.length kc, .int .i64 torn, .int .i64 bytes] 25))
  have HKF := Lib.hid hKF
  obtain ⟨gb, c, NA, nc, CA, cc, V, hD⟩ := hb
  have HOK := Lib.hid hD.ok
  have HND := Lib.hid hD.nd
  have HML := Lib.hid hD.mlen
  have HD1 := Lib.hid hD
  clear hD h hkr hKF hF hfb
  go_enter Try.func28, Try.ntmps28
  go_wp2_with fail
  obtain ⟨bx, hbx⟩ : ∃ bx, bx = w.heap.size := ⟨_, rfl⟩
  rw [← hbx] at HNB HBX ⊢
  generalize w.alloc (.cells #[.slice KA keep.length kc, .int .i64 torn, .int .i64 bytes] 25) = w1 at *
  clear hbx
  go_loopw [5] (fun c5 wr => ∃ j : Nat, j ≤ D.M.length ∧ c5 = .int .i64 j ∧ Hid (RD wr F g n gb c NA nc CA cc V { D with b := crashB (keptLen keep torn bytes) D.M D.b j }) ∧ Hid (TS F w1 wr)) (fun c5 _ => D.M.length - (intOf c5).toNat)
  case atStart => exact ⟨0, by omega, rfl, HD1.out, TS.refl _ _⟩
  case round =>
    obtain ⟨j, hj, rfl, HDK, HT⟩ := hrel
    obtain ⟨q0, q1, q2, q3⟩ := row4 HDK.out.row
    simp only at q0 q1 q2 q3
    have hml : (D.M.length : Int) ≤ 32768 := by have := HML.out; have := HOK.out.n2; omega
    have HBXr := Lib.hid ((HT.out.block bx (Array.getElem?_eq_some_iff.1 HBX.out).1 HNB.out).trans HBX.out)
    by_cases hlt : j < D.M.length
    · have hjx : (j : Int) < (D.M.length : Int) := by omega
      have HMJ := Lib.hid (show D.M[j]? = some D.M[j] from List.getElem?_eq_getElem hlt)
      generalize D.M[j] = p at *
      obtain ⟨k, x⟩ := p
      obtain ⟨cb, A4, c4, hCA, r1, -, r2, r3, -, r5, -⟩ := HDK.out.at (i := j) (k := k) (x := x) HMJ.out
      subst hCA
      have hsel := HOK.out.M _ (List.mem_of_getElem? HMJ.out)
      simp only at hsel
      obtain ⟨kn, rfl⟩ : ∃ kn : Nat, k = (kn : Int) := ⟨k.toNat, by omega⟩
      have hkn : kn < n := by omega
      have HXL := Lib.hid hsel.2.2
      have hkr := (OwnV.info HDK.out.keys).2.2.1
      obtain ⟨kb, ko, rfl, -, hkc⟩ := RdV.form hkr (by rw [List.length_map]; simp only; omega)
      have hkj := hkc j (by rw [List.length_map]; exact hlt)
      rw [List.getElem_map] at hkj
      have hpj : D.M[j] = ((kn : Int), x) := by have := HMJ.out; rw [List.getElem?_eq_getElem hlt] at this; simpa using this
      simp only [hpj] at hkj
      have HKJ := Lib.hid hkj
      have HR1 := Lib.hid r1
      have HX4 := Lib.hid r3
      have hlen := HDK.out.ok.len
      simp only at hlen
      have hin := Own.info HDK.out.bytes
      simp only [hlen] at hin
      have hcut := fun W => cut_from gb c (512 * n) (512 * kn) (by omega) hin.1 W
      have hcut2 : ∀ W, (Instr.slice 34 (.slice (some ⟨gb, 0, none⟩) (512 * n) c) (some (.int .i64 ((kn : Int) * 512))) none none).run Try.prog W = .ok (.slice (some ⟨gb, 512 * kn, none⟩) (512 * n - 512 * kn) (c - 512 * kn)) W := fun W => by
        have := hcut W
        rw [show ((512 * kn : Nat) : Int) = (kn : Int) * 512 by omega] at this
        exact this
      have HCUT := Lib.hid hcut2
      have hw1 : IntKind.i64.wrap ((kn : Int) * 512) = (kn : Int) * 512 := by rw [IntKind.wrap_i64]; have := HOK.out.n2; omega
      have HW1 := Lib.hid hw1
      have HRX := Lib.hid r2
      rw [HXL.out] at HR1
      clear hkr hkc hkj hpj r1 r2 r3 r5 hsel hlen hin hcut hcut2 hw1
      have hkr1 := HT.out
      have HKEEP := Lib.hid (show RdV wr KA (keep.map .bool) from by
        rcases Nat.eq_zero_or_pos keep.length with h0 | h0
        · obtain rfl := List.eq_nil_of_length_eq_zero h0
          exact RdV.nil _ _
        · exact RdV.move HKR.out fun a v e hc => HT.out.cell hc (by
            cases KA with
            | none => cases e
            | some ad => simp at e; have := HKF.out ad rfl h0; rw [← e]; exact this))
      have hkl2 : (keep.length : Int) ≤ 1000000000 := by omega
      clear hkr1
      obtain ⟨p0, p1, p2⟩ := row3 HBXr.out
      go_upto_region 5 with fail
      go_cut [27] (fun s27 wx => s27 = .bool (keptB keep j) ∧ wx = wr)
      case first =>
        by_cases hjk : j < keep.length
        · obtain ⟨kb0, ko0, rfl, hkb0, hkcell⟩ := RdV.form HKEEP.out (by simp; omega)
          have hkj := hkcell j (by simpa using hjk)
          rw [show (keep.map Value.bool)[j]'(by simpa using hjk) = .bool (keptB keep j) from by
            rw [List.getElem_map]; unfold keptB; rw [List.getD_eq_getElem?_getD, List.getElem?_eq_getElem hjk]; rfl] at hkj
          have hjk2 : (j : Int) < (keep.length : Int) := by omega
          generalize keptB keep j = KB at *
          clear hkcell
          go_wp2_with fail
          go_meet
          exact ⟨rfl, rfl⟩
        · have hjk2 : ¬ (j : Int) < (keep.length : Int) := by omega
          have HKF0 := Lib.hid (show keptB keep j = false from by unfold keptB; rw [List.getD_eq_getElem?_getD, List.getElem?_eq_none (by omega)]; rfl)
          clear hjk
          go_wp2_with fail
          go_meet
          exact ⟨by rw [HKF0.out], rfl⟩
      obtain ⟨rfl, rfl⟩ := hcut
      obtain ⟨kb1, hkb1⟩ : ∃ b, b = keptB keep j := ⟨_, rfl⟩
      rw [← hkb1]
      have HKB1 := Lib.hid hkb1
      clear hkb1
      go_upto_if 27 with fail
      go_cut [6] (fun s6 wx => s6 = .int .i64 (if kb1 = true then 512 else 0) ∧ wx = wc)
      case first =>
        clear HKB1
        cases kb1
        all_goals
          go_wp2_with fail
          go_meet
          exact ⟨rfl, rfl⟩
      obtain ⟨rfl, rfl⟩ := hcut
      obtain ⟨z6, hz6⟩ : ∃ z6 : Int, z6 = if kb1 = true then 512 else 0 := ⟨_, rfl⟩
      rw [← hz6]
      have HZ6 := Lib.hid (show z6 = if keptB keep j = true then 512 else 0 from by rw [← HKB1.out]; exact hz6)
      clear hz6
      go_upto_region 7 with fail
      go_cut [41] (fun s41 wx => s41 = .bool (tornB torn bytes j) ∧ wx = wc)
      case first =>
        by_cases h1 : (j : Int) = torn
        · have h1b : ((j : Int) == torn) = true := by simpa using h1
          by_cases h2 : 0 ≤ bytes
          · have HTB := Lib.hid (show tornB torn bytes j = decide (bytes ≤ 512) from by unfold tornB; simp [h1, h2])
            clear h1
            go_wp2_with fail
            go_meet
            exact ⟨by rw [HTB.out], rfl⟩
          · have HTB := Lib.hid (show tornB torn bytes j = false from by unfold tornB; simp [h2])
            clear h1
            go_wp2_with fail
            go_meet
            exact ⟨by rw [HTB.out], rfl⟩
        · have h1b : ((j : Int) == torn) = false := by simpa using h1
          have HTB := Lib.hid (show tornB torn bytes j = false from by unfold tornB; simp [h1])
          clear h1
          go_wp2_with fail
          go_meet
          exact ⟨by rw [HTB.out], rfl⟩
      obtain ⟨rfl, rfl⟩ := hcut
      obtain ⟨m, hm⟩ : ∃ m, m = keptLen keep torn bytes j := ⟨_, rfl⟩
      have hm2 : m ≤ 512 := by
        rw [hm]
        unfold keptLen
        split
        · omega
        · split <;> omega
      have HKL := Lib.hid hm.symm
      clear hm
      obtain ⟨tb1, htb1⟩ : ∃ b, b = tornB torn bytes j := ⟨_, rfl⟩
      rw [← htb1]
      have HTB1 := Lib.hid htb1
      clear htb1
      go_upto_if 41 with fail
      go_cut [6] (fun s6 wx => s6 = .int .i64 (m : Int) ∧ wx = wc)
      case first =>
        have h1 := HKL.out
        rw [keptLen_eq, ← HTB1.out] at h1
        cases tb1
        · have HM := Lib.hid (show z6 = (m : Int) from by
            simp only [Bool.false_eq_true, if_false] at h1
            rw [HZ6.out, ← h1]
            split <;> rfl)
          clear h1
          go_wp2_with fail
          go_meet
          exact ⟨by rw [HM.out], rfl⟩
        · have HM := Lib.hid (show bytes = (m : Int) from by
            simp only [if_true] at h1
            have hTB := HTB1.out
            unfold tornB at hTB
            have := of_decide_eq_true hTB.symm
            omega)
          clear h1
          go_wp2_with fail
          go_meet
          exact ⟨by rw [HM.out], rfl⟩
      obtain ⟨rfl, rfl⟩ := hcut
      clear p0 p1 p2
      go_wp2_with fail
      obtain ⟨W1, hW1⟩ : ∃ W1 : World, W1 = wc := ⟨_, rfl⟩
      rw [← hW1]
      refine region_sch (E := TS ([gb])) ((0, true) :: (1, true) :: (2, true) :: (3, true) :: (4, true) :: (5, true) :: (6, true) :: (7, true) :: (8, true) :: (9, true) :: (10, true) :: (11, true) :: (12, true) :: (13, true) :: (14, true) :: (15, true) :: (16, true) :: (17, true) :: (18, true) :: (19, true) :: (20, true) :: (21, true) :: (22, false) :: []) (by kernel_rfl) (TS.refl _) (fun _ _ _ h k => TS.then h k) (fun _ _ d _ _ h => by cases d <;> exact h) (by kernel_rfl) ?_
      intro ops hops0
      have hops := Lib.hid hops0
      clear hops0
      have HF : TS ([gb]) W1 W1.drew := TS.of (FB.refl _).drew
      have HD : FB W1 W1.drew := (FB.refl _).drew
      generalize W1.drew = wF1 at *
      rw [hW1] at HF HD
      clear hW1
      have HDW := Lib.hid (HDK.out.fb HD)
      have HQ := Lib.hid (row4 HDW.out.row)
      have HKC := Lib.hid (FB.cell HD HKJ.out)
      have HCC := Lib.hid (FB.cell HD HR1.out)
      have HNG := Lib.hid (show g ∉ [gb] ∧ cb ∉ [gb] ∧ kb ∉ [gb] from by
        have hd := HDK.out.disj
        refine ⟨by simpa using hd.2.2.2.2.2, ?_, ?_⟩
        · simp only [List.mem_singleton]; rintro rfl; exact hd.2.2.2.2.1 (by simp [optBlk])
        · simp only [List.mem_singleton]; rintro rfl; exact hd.2.2.2.1 (by simp [optBlk]))
      have hlen := HDW.out.ok.len
      simp only at hlen
      have HXT := Lib.hid (show (x.take m).length = m from by rw [List.length_take, HXL.out]; omega)
      have hcx := cut_hi A4 c4 x m (by rw [HXL.out]; omega) HX4.out
      rw [HXL.out] at hcx
      have HCX := Lib.hid hcx
      obtain ⟨w6, hrun6, hown, htb6⟩ := run_copy_sec HDW.out.bytes (512 * kn) (512 * n - 512 * kn) (c - 512 * kn) A4 c4 (x.take m) (FB.rd HD (HRX.out.take m)) (by rw [HXT.out]; omega) (by rw [HXT.out, hlen]; omega)
      rw [HXT.out] at hrun6
      have HC6 := Lib.hid (show splice (crashB (keptLen keep torn bytes) D.M D.b j) (512 * kn) (x.take m) = crashB (keptLen keep torn bytes) D.M D.b (j + 1) from by
        rw [crashB, HMJ.out, HKL.out]
        simp only [Int.toNat_natCast])
      simp only at hown
      rw [HC6.out] at hown
      obtain ⟨hd6, ht6⟩ := HDW.out.copied _ (crashB_len HOK.out.len HOK.out.M _) hown htb6
      have HD6 := Lib.hid hd6
      have HT6 := Lib.hid (HT.out.then ((TS.of HD).then ht6))
      have HE6 := Lib.hid (show TS [gb] wF1 w6 from TS.tb htb6 (by simp))
      have HRUN := Lib.hid hrun6
      clear hlen hrun6 hown htb6 hd6 ht6 hcx
      repeat (refine sch_take (o := ?_) (v := ?_) (a' := ?_) (at_of hops.out ?_) ?_ (fun W hW => ?_) ?_ ?_; rotate_left 3; (focus (simp only [List.getElem?_toArray, List.getElem?_cons_zero, List.getElem?_cons_succ]; rfl)); (focus (rw [hops.out]; rfl)); (focus (have u1 := TS.cell hW HQ.out.1 HNG.out.1; have u2 := TS.cell hW HQ.out.2.1 HNG.out.1; have u3 := TS.cell hW HQ.out.2.2.1 HNG.out.1; have u4 := TS.cell hW HKC.out HNG.out.2.2; have u5 := TS.cell hW HCC.out HNG.out.2.1; have u6 := HCUT.out W; have u7 := HW1.out; have u8 := HCX.out W; go_simp; with_reducible rfl)); (focus (simp only [Act.put, List.setIfInBounds_toArray, List.set_cons_zero, List.set_cons_succ]; rfl)))
      (refine sch_copy (o := ?_) (at_of hops.out ?_) ?_ (.tmp 56) (.tmp 65) 34 34 ?_ _ _ ?_ ?_ HRUN.out HE6.out ?_; rotate_left 1; (focus (simp only [List.getElem?_toArray, List.getElem?_cons_zero, List.getElem?_cons_succ]; rfl)); (focus (rw [hops.out]; rfl)); (focus rfl); (focus rfl); (focus rfl))
      refine sch_done ?_
      clear hops HF
      go_wp2
      go_roundw
      case rel => exact ⟨j + 1, by omega, by go_num, HD6.out, HT6.out⟩
      case measure => simp [intOf]; omega
    · obtain rfl : j = D.M.length := by omega
      have hjx : ¬ (D.M.length : Int) < (D.M.length : Int) := by omega
      obtain ⟨h1, h2⟩ := HDK.out.emptied
      obtain ⟨h3, h4⟩ := h1.refuse none (fun z hz => by cases hz) (-1) rfl
      have f1 := frozen_row _ HDK.out.row 1
      have hrow1 := heap_setCell_same _ g 1 _ _ (.slice none 0 0) HDK.out.row
      obtain ⟨s0, s1, s2, s3⟩ := row4 hrow1
      have f2 := frozen_row _ hrow1 2
      obtain ⟨t0, t1, t2, t3⟩ := row4 h1.row
      have f3 := frozen_row _ h1.row 3
      have H1 := Lib.hid h3
      have H2 := Lib.hid (HT0.out.then (HT.out.then (h2.then h4)))
      clear hrow1 h1 h2 h3 h4
      go_wp2
      go_ret
      exact ⟨rfl, ⟨gb, c, _, _, _, _, _, H1.out⟩, H2.out⟩
end
end Go.Proofs.Ytbedpjpddcjpkaa
