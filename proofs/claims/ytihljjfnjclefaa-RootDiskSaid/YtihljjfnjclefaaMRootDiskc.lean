/- Walks and laws that the claim's last text stands on, several texts in one file: Rfj, Two, PgE, PgL, Rr, CrcR, RgA, RgB, RtE. Under the hypotheses that each theorem states. -/
import Derived.Deep.DeepCutAuto
import Derived.Test.YtihljjfnjclefaaMRta
import Derived.Test.YtihljjfnjclefaaMRtb
import Derived.Test.YtihljjfnjclefaaMRtc
import Derived.Test.YtihljjfnjclefaaMRtd
import Derived.Test.YtihljjfnjclefaaMRte
import Derived.Test.YtihljjfnjclefaaMRtf
import Derived.Test.YtihljjfnjclefaaMRtg
import Derived.Test.YtihljjfnjclefaaMRth
import Derived.Test.YtihljjfnjclefaaMRti
import Derived.Test.YtihljjfnjclefaaMRtj
import Derived.Test.YtihljjfnjclefaaMRtk
import Derived.Test.YtihljjfnjclefaaMRtl
import Derived.Test.YtihljjfnjclefaaMRootDiska
import Derived.Test.YtihljjfnjclefaaMRootDiskb
/- The reference's disk: the walk through Crash. -/
set_option linter.unusedVariables false
set_option linter.unusedSimpArgs false
namespace Go.Proofs.Ytihljjfnjclefaa
open Go.ChangeShapes Go.WideShapes Go.ChangeAt Go.RowKit Go.MapKept
set_option maxRecDepth 100000

theorem box3' {w : World} {a b c : Value} {t : TypeId} {W : World} (h : FB (w.alloc (.cells #[a, b, c] t)) W) : W.heap[w.heap.size]? = some (.cells #[a, b, c] t (0, 0)) := by
  rw [h.block _ (by simp)]; exact heap_alloc_new _ _
/-- Is a cached sector kept? is it torn? -/
def keptB (keep : List Bool) (j : Nat) : Bool := keep.getD j false
def tornB (torn bytes : Int) (j : Nat) : Bool := decide ((j : Int) = torn ∧ 0 ≤ bytes ∧ bytes ≤ 512)
theorem keptLen_eq (keep : List Bool) (torn bytes : Int) (j : Nat) : keptLen keep torn bytes j = if tornB torn bytes j then bytes.toNat else if keptB keep j then 512 else 0 := by
  unfold keptLen tornB keptB
  simp only [decide_eq_true_eq]
section
variable {w : World} {F : List Nat} {g n : Nat} {D : DiskSt}
set_option maxHeartbeats 4000000 in
theorem ref_Crash (h : RDsk w F g n D) (KA : Option Addr) (kc : Nat) (keep : List Bool) (torn bytes : Int) (hkr : RdV w KA (keep.map .bool)) (hKF : ∀ ad, KA = some ad → 0 < keep.length → ad.block ∉ F) (hkl : keep.length ≤ 1000000000) :
    Calls Try.prog 34 #[.pointer (some ⟨g, 0, none⟩), .agg #[.slice KA keep.length kc, .int .i64 torn, .int .i64 bytes]] w fun e w' => e = .returned (.int .i64 0) ∧ RDsk w' F g n ⟨crashB (keptLen keep torn bytes) D.M D.b D.M.length, [], none⟩ ∧ TS F w w' := by
  have hF := h.lt
  have HNB := Lib.hid (show w.heap.size ∉ F from fun hm => by have := hF _ hm; omega)
  have hfb := (FB.refl w).alloc (.cells #[.slice KA keep.length kc, .int .i64 torn, .int .i64 bytes] 52)
  have hb := h.fb hfb
  have HKR := Lib.hid (hfb.rdV hkr)
  have HT0 := Lib.hid (TS.of (F := F) hfb)
  have HBX := Lib.hid (heap_alloc_new w (.cells #[.slice KA keep.length kc, .int .i64 torn, .int .i64 bytes] 52))
  have HKF := Lib.hid hKF
  obtain ⟨gb, c, NA, nc, CA, cc, V, hD⟩ := hb
  have HOK := Lib.hid hD.ok
  have HND := Lib.hid hD.nd
  have HML := Lib.hid hD.mlen
  have HD1 := Lib.hid hD
  clear hD h hkr hKF hF hfb
  go_enter Try.func34, Try.ntmps34
  go_wp2_with fail
  obtain ⟨bx, hbx⟩ : ∃ bx, bx = w.heap.size := ⟨_, rfl⟩
  rw [← hbx] at HNB HBX ⊢
  generalize w.alloc (.cells #[.slice KA keep.length kc, .int .i64 torn, .int .i64 bytes] 52) = w1 at *
  clear hbx
  go_loopw [5] (fun c5 wr => ∃ j : Nat, j ≤ D.M.length ∧ c5 = .int .i64 j ∧ Hid (RD wr F g n gb c NA nc CA cc V { D with b := crashB (keptLen keep torn bytes) D.M D.b j }) ∧ Hid (TS F w1 wr)) (fun c5 _ => D.M.length - (intOf c5).toNat)
  case atStart => exact ⟨0, by omega, rfl, HD1.out, TS.refl _ _⟩
  case round =>
    obtain ⟨j, hj, rfl, HDK, HT⟩ := hrel
    obtain ⟨q0, q1, q2, q3⟩ := row4 HDK.out.row
    simp only at q0 q1 q2 q3
    have hml : (D.M.length : Int) ≤ 32768 := by have := HML.out; have := HOK.out.n2; omega
    have HBXr := Lib.hid ((HT.out.block bx (Array.getElem?_eq_some_iff.1 HBX.out).1 HNB.out).trans HBX.out)
    by_cases hlt : j < D.M.length
    · have hjx : (j : Int) < (D.M.length : Int) := by omega
      have HMJ := Lib.hid (show D.M[j]? = some D.M[j] from List.getElem?_eq_getElem hlt)
      generalize D.M[j] = p at *
      obtain ⟨k, x⟩ := p
      obtain ⟨cb, A4, c4, hCA, r1, -, r2, r3, -, r5, -⟩ := HDK.out.at (i := j) (k := k) (x := x) HMJ.out
      subst hCA
      have hsel := HOK.out.M _ (List.mem_of_getElem? HMJ.out)
      simp only at hsel
      obtain ⟨kn, rfl⟩ : ∃ kn : Nat, k = (kn : Int) := ⟨k.toNat, by omega⟩
      have hkn : kn < n := by omega
      have HXL := Lib.hid hsel.2.2
      have hkr := (OwnV.info HDK.out.keys).2.2.1
      obtain ⟨kb, ko, rfl, -, hkc⟩ := RdV.form hkr (by rw [List.length_map]; simp only; omega)
      have hkj := hkc j (by rw [List.length_map]; exact hlt)
      rw [List.getElem_map] at hkj
      have hpj : D.M[j] = ((kn : Int), x) := by have := HMJ.out; rw [List.getElem?_eq_getElem hlt] at this; simpa using this
      simp only [hpj] at hkj
      have HKJ := Lib.hid hkj
      have HR1 := Lib.hid r1
      have HX4 := Lib.hid r3
      have hlen := HDK.out.ok.len
      simp only at hlen
      have hin := Own.info HDK.out.bytes
      simp only [hlen] at hin
      have hcut := fun W => cut_from gb c (512 * n) (512 * kn) (by omega) hin.1 W
      have hcut2 : ∀ W, (Instr.slice 22 (.slice (some ⟨gb, 0, none⟩) (512 * n) c) (some (.int .i64 ((kn : Int) * 512))) none none).run Try.prog W = .ok (.slice (some ⟨gb, 512 * kn, none⟩) (512 * n - 512 * kn) (c - 512 * kn)) W := fun W => by
        have := hcut W
        rw [show ((512 * kn : Nat) : Int) = (kn : Int) * 512 by omega] at this
        exact this
      have HCUT := Lib.hid hcut2
      have hw1 : IntKind.i64.wrap ((kn : Int) * 512) = (kn : Int) * 512 := by rw [IntKind.wrap_i64]; have := HOK.out.n2; omega
      have HW1 := Lib.hid hw1
      have HRX := Lib.hid r2
      rw [HXL.out] at HR1
      clear hkr hkc hkj hpj r1 r2 r3 r5 hsel hlen hin hcut hcut2 hw1
      have hkr1 := HT.out
      have HKEEP := Lib.hid (show RdV wr KA (keep.map .bool) from by
        rcases Nat.eq_zero_or_pos keep.length with h0 | h0
        · obtain rfl := List.eq_nil_of_length_eq_zero h0
          exact RdV.nil _ _
        · exact RdV.move HKR.out fun a v e hc => HT.out.cell hc (by
            cases KA with
            | none => cases e
            | some ad => simp at e; have := HKF.out ad rfl h0; rw [← e]; exact this))
      have hkl2 : (keep.length : Int) ≤ 1000000000 := by omega
      clear hkr1
      obtain ⟨p0, p1, p2⟩ := row3 HBXr.out
      go_upto_region 5 with fail
      go_cut [27] (fun s27 wx => s27 = .bool (keptB keep j) ∧ wx = wr)
      case first =>
        by_cases hjk : j < keep.length
        · obtain ⟨kb0, ko0, rfl, hkb0, hkcell⟩ := RdV.form HKEEP.out (by simp; omega)
          have hkj := hkcell j (by simpa using hjk)
          rw [show (keep.map Value.bool)[j]'(by simpa using hjk) = .bool (keptB keep j) from by
            rw [List.getElem_map]; unfold keptB; rw [List.getD_eq_getElem?_getD, List.getElem?_eq_getElem hjk]; rfl] at hkj
          have hjk2 : (j : Int) < (keep.length : Int) := by omega
          generalize keptB keep j = KB at *
          clear hkcell
          go_wp2_with fail
          go_meet
          exact ⟨rfl, rfl⟩
        · have hjk2 : ¬ (j : Int) < (keep.length : Int) := by omega
          have HKF0 := Lib.hid (show keptB keep j = false from by unfold keptB; rw [List.getD_eq_getElem?_getD, List.getElem?_eq_none (by omega)]; rfl)
          clear hjk
          go_wp2_with fail
          go_meet
          exact ⟨by rw [HKF0.out], rfl⟩
      obtain ⟨rfl, rfl⟩ := hcut
      obtain ⟨kb1, hkb1⟩ : ∃ b, b = keptB keep j := ⟨_, rfl⟩
      rw [← hkb1]
      have HKB1 := Lib.hid hkb1
      clear hkb1
      go_upto_if 27 with fail
      go_cut [6] (fun s6 wx => s6 = .int .i64 (if kb1 = true then 512 else 0) ∧ wx = wc)
      case first =>
        clear HKB1
        cases kb1
        all_goals
          go_wp2_with fail
          go_meet
          exact ⟨rfl, rfl⟩
      obtain ⟨rfl, rfl⟩ := hcut
      obtain ⟨z6, hz6⟩ : ∃ z6 : Int, z6 = if kb1 = true then 512 else 0 := ⟨_, rfl⟩
      rw [← hz6]
      have HZ6 := Lib.hid (show z6 = if keptB keep j = true then 512 else 0 from by rw [← HKB1.out]; exact hz6)
      clear hz6
      go_upto_region 7 with fail
      go_cut [41] (fun s41 wx => s41 = .bool (tornB torn bytes j) ∧ wx = wc)
      case first =>
        by_cases h1 : (j : Int) = torn
        · have h1b : ((j : Int) == torn) = true := by simpa using h1
          by_cases h2 : 0 ≤ bytes
          · have HTB := Lib.hid (show tornB torn bytes j = decide (bytes ≤ 512) from by unfold tornB; simp [h1, h2])
            clear h1
            go_wp2_with fail
            go_meet
            exact ⟨by rw [HTB.out], rfl⟩
          · have HTB := Lib.hid (show tornB torn bytes j = false from by unfold tornB; simp [h2])
            clear h1
            go_wp2_with fail
            go_meet
            exact ⟨by rw [HTB.out], rfl⟩
        · have h1b : ((j : Int) == torn) = false := by simpa using h1
          have HTB := Lib.hid (show tornB torn bytes j = false from by unfold tornB; simp [h1])
          clear h1
          go_wp2_with fail
          go_meet
          exact ⟨by rw [HTB.out], rfl⟩
      obtain ⟨rfl, rfl⟩ := hcut
      obtain ⟨m, hm⟩ : ∃ m, m = keptLen keep torn bytes j := ⟨_, rfl⟩
      have hm2 : m ≤ 512 := by
        rw [hm]
        unfold keptLen
        split
        · omega
        · split <;> omega
      have HKL := Lib.hid hm.symm
      clear hm
      obtain ⟨tb1, htb1⟩ : ∃ b, b = tornB torn bytes j := ⟨_, rfl⟩
      rw [← htb1]
      have HTB1 := Lib.hid htb1
      clear htb1
      go_upto_if 41 with fail
      go_cut [6] (fun s6 wx => s6 = .int .i64 (m : Int) ∧ wx = wc)
      case first =>
        have h1 := HKL.out
        rw [keptLen_eq, ← HTB1.out] at h1
        cases tb1
        · have HM := Lib.hid (show z6 = (m : Int) from by
            simp only [Bool.false_eq_true, if_false] at h1
            rw [HZ6.out, ← h1]
            split <;> rfl)
          clear h1
          go_wp2_with fail
          go_meet
          exact ⟨by rw [HM.out], rfl⟩
        · have HM := Lib.hid (show bytes = (m : Int) from by
            simp only [if_true] at h1
            have hTB := HTB1.out
            unfold tornB at hTB
            have := of_decide_eq_true hTB.symm
            omega)
          clear h1
          go_wp2_with fail
          go_meet
          exact ⟨by rw [HM.out], rfl⟩
      obtain ⟨rfl, rfl⟩ := hcut
      clear p0 p1 p2
      go_wp2_with fail
      obtain ⟨W1, hW1⟩ : ∃ W1 : World, W1 = wc := ⟨_, rfl⟩
      rw [← hW1]
      refine region_sch (E := TS ([gb])) ((0, true) :: (1, true) :: (2, true) :: (3, true) :: (4, true) :: (5, true) :: (6, true) :: (7, true) :: (8, true) :: (9, true) :: (10, true) :: (11, true) :: (12, true) :: (13, true) :: (14, true) :: (15, true) :: (16, true) :: (17, true) :: (18, true) :: (19, true) :: (20, true) :: (21, true) :: (22, false) :: []) (by kernel_rfl) (TS.refl _) (fun _ _ _ h k => TS.then h k) (fun _ _ d _ _ h => by cases d <;> exact h) (by kernel_rfl) ?_
      intro ops hops0
      have hops := Lib.hid hops0
      clear hops0
      have HF : TS ([gb]) W1 W1.drew := TS.of (FB.refl _).drew
      have HD : FB W1 W1.drew := (FB.refl _).drew
      generalize W1.drew = wF1 at *
      rw [hW1] at HF HD
      clear hW1
      have HDW := Lib.hid (HDK.out.fb HD)
      have HQ := Lib.hid (row4 HDW.out.row)
      have HKC := Lib.hid (FB.cell HD HKJ.out)
      have HCC := Lib.hid (FB.cell HD HR1.out)
      have HNG := Lib.hid (show g ∉ [gb] ∧ cb ∉ [gb] ∧ kb ∉ [gb] from by
        have hd := HDK.out.disj
        refine ⟨by simpa using hd.2.2.2.2.2, ?_, ?_⟩
        · simp only [List.mem_singleton]; rintro rfl; exact hd.2.2.2.2.1 (by simp [optBlk])
        · simp only [List.mem_singleton]; rintro rfl; exact hd.2.2.2.1 (by simp [optBlk]))
      have hlen := HDW.out.ok.len
      simp only at hlen
      have HXT := Lib.hid (show (x.take m).length = m from by rw [List.length_take, HXL.out]; omega)
      have hcx := cut_hi A4 c4 x m (by rw [HXL.out]; omega) HX4.out
      rw [HXL.out] at hcx
      have HCX := Lib.hid hcx
      obtain ⟨w6, hrun6, hown, htb6⟩ := run_copy_sec HDW.out.bytes (512 * kn) (512 * n - 512 * kn) (c - 512 * kn) A4 c4 (x.take m) (FB.rd HD (HRX.out.take m)) (by rw [HXT.out]; omega) (by rw [HXT.out, hlen]; omega)
      rw [HXT.out] at hrun6
      have HC6 := Lib.hid (show splice (crashB (keptLen keep torn bytes) D.M D.b j) (512 * kn) (x.take m) = crashB (keptLen keep torn bytes) D.M D.b (j + 1) from by
        rw [crashB, HMJ.out, HKL.out]
        simp only [Int.toNat_natCast])
      simp only at hown
      rw [HC6.out] at hown
      obtain ⟨hd6, ht6⟩ := HDW.out.copied _ (crashB_len HOK.out.len HOK.out.M _) hown htb6
      have HD6 := Lib.hid hd6
      have HT6 := Lib.hid (HT.out.then ((TS.of HD).then ht6))
      have HE6 := Lib.hid (show TS [gb] wF1 w6 from TS.tb htb6 (by simp))
      have HRUN := Lib.hid hrun6
      clear hlen hrun6 hown htb6 hd6 ht6 hcx
      repeat (refine sch_take (o := ?_) (v := ?_) (a' := ?_) (at_of hops.out ?_) ?_ (fun W hW => ?_) ?_ ?_; rotate_left 3; (focus (simp only [List.getElem?_toArray, List.getElem?_cons_zero, List.getElem?_cons_succ]; rfl)); (focus (rw [hops.out]; rfl)); (focus (have u1 := TS.cell hW HQ.out.1 HNG.out.1; have u2 := TS.cell hW HQ.out.2.1 HNG.out.1; have u3 := TS.cell hW HQ.out.2.2.1 HNG.out.1; have u4 := TS.cell hW HKC.out HNG.out.2.2; have u5 := TS.cell hW HCC.out HNG.out.2.1; have u6 := HCUT.out W; have u7 := HW1.out; have u8 := HCX.out W; go_simp; with_reducible rfl)); (focus (simp only [Act.put, List.setIfInBounds_toArray, List.set_cons_zero, List.set_cons_succ]; rfl)))
      (refine sch_copy (o := ?_) (at_of hops.out ?_) ?_ (.tmp 56) (.tmp 65) 22 22 ?_ _ _ ?_ ?_ HRUN.out HE6.out ?_; rotate_left 1; (focus (simp only [List.getElem?_toArray, List.getElem?_cons_zero, List.getElem?_cons_succ]; rfl)); (focus (rw [hops.out]; rfl)); (focus rfl); (focus rfl); (focus rfl))
      refine sch_done ?_
      clear hops HF
      go_wp2
      go_roundw
      case rel => exact ⟨j + 1, by omega, by go_num, HD6.out, HT6.out⟩
      case measure => simp [intOf]; omega
    · obtain rfl : j = D.M.length := by omega
      have hjx : ¬ (D.M.length : Int) < (D.M.length : Int) := by omega
      obtain ⟨h1, h2⟩ := HDK.out.emptied
      obtain ⟨h3, h4⟩ := h1.refuse none (fun z hz => by cases hz) (-1) rfl
      have f1 := frozen_row _ HDK.out.row 1
      have hrow1 := heap_setCell_same _ g 1 _ _ (.slice none 0 0) HDK.out.row
      obtain ⟨s0, s1, s2, s3⟩ := row4 hrow1
      have f2 := frozen_row _ hrow1 2
      obtain ⟨t0, t1, t2, t3⟩ := row4 h1.row
      have f3 := frozen_row _ h1.row 3
      have H1 := Lib.hid h3
      have H2 := Lib.hid (HT0.out.then (HT.out.then (h2.then h4)))
      clear hrow1 h1 h2 h3 h4
      go_wp2
      go_ret
      exact ⟨rfl, ⟨gb, c, _, _, _, _, _, H1.out⟩, H2.out⟩
end
end Go.Proofs.Ytihljjfnjclefaa
/- A disk and the reference's disk, side by side. -/
set_option linter.unusedVariables false
set_option linter.unusedSimpArgs false
namespace Go.Proofs.Ytihljjfnjclefaa
open Go.ChangeShapes Go.WideShapes Go.ChangeAt Go.RowKit Go.MapKept

structure Two (w0 w : World) (F : List Nat) (g : Nat) (G : List Nat) (h n : Nat) (D D2 : DiskSt) : Prop where
  dw : DW w0 w F g n D
  rd : RDsk w G h n D2
  own : ∀ x ∈ G, w0.heap.size ≤ x
  dj : ∀ x ∈ F, x ∉ G
section
variable {w0 w w' : World} {F G : List Nat} {g h n : Nat} {D D2 D' : DiskSt}
theorem Two.fb (t : Two w0 w F g G h n D D2) (k : FB w w') : Two w0 w' F g G h n D D2 := ⟨t.dw.fbn k, t.rd.fb k, t.own, t.dj⟩
theorem Two.stepD (t : Two w0 w F g G h n D D2) (k : DskRes w F g n D' w') : ∃ F', Two w0 w' F' g G h n D' D2 ∧ TS F w w' := by
  obtain ⟨F', h1, h2, h3⟩ := t.dw.res k
  refine ⟨F', ⟨h1, t.rd.ts h2 t.dj, t.own, fun x hx hg => ?_⟩, h2⟩
  rcases h3 x hx with h' | h'
  · exact t.dj x h' hg
  · have := t.rd.lt x hg; omega
theorem Two.stepR (t : Two w0 w F g G h n D D2) (k : RRes w G h n D' w') : ∃ G', Two w0 w' F g G' h n D D' ∧ TS G w w' := by
  obtain ⟨G', h1, h2, h3⟩ := k
  have hd : ∀ x ∈ G, x ∉ F := fun x hx hf => t.dj x hf hx
  refine ⟨G', ⟨⟨t.dw.dsk.ts h3 hd, t.dw.fb.ts h3 t.own, t.dw.own⟩, h2, fun x hx => ?_, fun x hx hg => ?_⟩, h3⟩
  · rcases h1 x hx with h' | h'
    · exact t.own x h'
    · exact Nat.le_trans t.dw.fb.le h'
  · rcases h1 x hg with h' | h'
    · exact t.dj x hx h'
    · have := t.dw.dsk.lt x hx; omega
theorem DskRes.of (h : Dsk w' F g n D') (t : TS F w w') : DskRes w F g n D' w' := ⟨F, fun x hx => .inl hx, h, t⟩
theorem RRes.of (h : RDsk w' G g n D') (t : TS G w w') : RRes w G g n D' w' := ⟨G, fun x hx => .inl hx, h, t⟩
/-- A block outside both. -/
theorem Two.keepD (t : Two w0 w F g G h n D D2) (k : TS F w w') {b : Nat} {o : Obj} (hb : w.heap[b]? = some o) (hn : b ∉ F) : w'.heap[b]? = some o := (k.block b (Array.getElem?_eq_some_iff.1 hb).1 hn).trans hb
end
end Go.Proofs.Ytihljjfnjclefaa
/- page: the walks through Kind, Same. -/
set_option linter.unusedVariables false
set_option linter.unusedSimpArgs false
namespace Go.Proofs.Ytihljjfnjclefaa
open Go.ChangeShapes Go.WideShapes Go.ChangeAt Go.RowKit
attribute [local go_sem] nb_nonneg nb_lt8 nb_lt64
set_option maxRecDepth 100000
theorem pbox22 (w : World) (a b c d e f : Value) : let W := (w.alloc (.cells #[a, b, c] 71)).alloc (.cells #[d, e, f] 71)
    FB w W ∧ W.heap[w.heap.size]? = some (.cells #[a, b, c] 71 (0, 0)) ∧ W.heap[w.heap.size + 1]? = some (.cells #[d, e, f] 71 (0, 0)) ∧ W.heap.size = w.heap.size + 2 := by
  refine ⟨((FB.refl w).alloc _).alloc _, ?_, ?_, by simp⟩
  · rw [((FB.refl (w.alloc (.cells #[a, b, c] 71))).alloc _).block _ (by simp)]; exact heap_alloc_new _ _
  · have := heap_alloc_new (w.alloc (.cells #[a, b, c] 71)) (.cells #[d, e, f] 71)
    simpa using this
end Go.Proofs.Ytihljjfnjclefaa
/- page: the chapter's examples (lives). -/
set_option linter.unusedVariables false
set_option linter.unusedSimpArgs false
namespace Go.Proofs.Ytihljjfnjclefaa
open Go.ChangeShapes Go.WideShapes Go.ChangeAt Go.RowKit
set_option maxRecDepth 100000

def ab2 : List Byte := [97#8, 98#8]
theorem ab_ok : pgB 6 258#32 ab2 = (pgBytes 6#8 258#32 ab2, 0) := by unfold pgB; rw [if_pos (by decide)]; rfl
theorem ab_len : (pgBytes 6#8 258#32 ab2).length = 4096 := pgBytes_len _ _ (by decide)
theorem ab_read : pgR (pgBytes 6#8 258#32 ab2) = ((6, 258#32, pgPad ab2), 0) := pgR_bytes (K := 6) (n := 258#32) (x := ab2) (by decide)
theorem ab_head : (pgBytes 6#8 258#32 ab2).take 12 = [84#8, 77#8, 1#8, 6#8, 2#8, 1#8, 0#8, 0#8, 0#8, 0#8, 0#8, 0#8] := by rw [pgBytes_take]; decide
theorem ab_pad : (pgPad ab2).take 3 = [97#8, 98#8, 0#8] := by
  unfold pgPad
  rw [show 4080 - ab2.length = 4077 + 1 from by decide, List.replicate_succ]; rfl
theorem ab_padlen : (pgPad ab2).length = 4080 := pgPad_len (by decide)
theorem ab_same : pgSame 6 258#32 (pgPad ab2) 6 258#32 ab2 = true := by unfold pgSame; rw [trimz_pad]; simp
end Go.Proofs.Ytihljjfnjclefaa
/- the reference of layer 1: a reader of four bytes, and the word that it reads. -/
set_option linter.unusedVariables false
set_option linter.unusedSimpArgs false
namespace Go.Proofs.Ytihljjfnjclefaa
open Go.ChangeShapes Go.WideShapes Go.ChangeAt Go.RowKit
attribute [local go_sem] nb_nonneg nb_lt8 nb_lt64
set_option maxRecDepth 100000

set_option maxHeartbeats 1000000 in
theorem rr_New (xs : List Byte) (A : Option Addr) (c : Nat) (w : World) (hx : xs.length = 4) (hr : Rd w A xs) :
    Calls Try.prog 52 #[.slice A 4 c] w fun e w' => ∃ g b c', e = .returned (.pointer (some ⟨g, 0, none⟩)) ∧ w'.heap[g]? = some (.cells #[.slice (some ⟨b, 0, none⟩) 4 c', .int .i64 0] 113 (0, 0)) ∧ Rd w' (some ⟨b, 0, none⟩) xs ∧ 4 ≤ c' ∧ c' ≤ maxLen ∧ b < g ∧ w.heap.size ≤ g ∧ FB w w' := by
  have HR := Lib.hid hr
  have HX := Lib.hid hx
  clear hr hx
  go_enter Try.func52, Try.ntmps52
  go_wp2_with (at_builtin; (refine wpList_append_bytes rfl _ _ rfl w.heap.size _ [] (OwnV.lit _ w [] (by simp)) rfl A c xs (by rw [HX.out]; rfl) (HR.out.alloc _) (by simp [HX.out]) (by simp) ?_; intro v' w1 ho hg _; obtain ⟨A', c', e', h1, h2, -, -⟩ := Own.form ho; rw [List.nil_append, HX.out] at e' h1; subst e'; have HO := Lib.hid ho; have HG := Lib.hid hg; have H1 := Lib.hid h1; have H2 := Lib.hid h2; clear ho hg h1 h2))
  go_ret
  obtain ⟨b, rfl, hb1, hb2⟩ := OwnV.head0 HO.out (by rw [vbs_length, List.nil_append, HX.out]; omega)
  refine ⟨w1.heap.size, b, c', rfl, heap_alloc_new _ _, (Own.info HO.out).2.2.1.alloc _, H1.out, H2.out, hb2, ?_, (((FB.refl w).alloc _).grown HG.out (by simp [Value.ownBlock])).alloc _⟩
  have := HG.out.size
  simp at this; omega
set_option maxHeartbeats 1000000 in
theorem rr_take (xs : List Byte) (g b c : Nat) (w : World) (hx : xs.length = 4) (hrow : w.heap[g]? = some (.cells #[.slice (some ⟨b, 0, none⟩) 4 c, .int .i64 0] 113 (0, 0))) (hr : Rd w (some ⟨b, 0, none⟩) xs) (h4 : 4 ≤ c) (hm : c ≤ maxLen) :
    Calls Try.prog 72 #[.pointer (some ⟨g, 0, none⟩), .int .i64 4] w fun e w' => ∃ A' c', e = .returned (.tuple #[.slice A' 4 c', .bool true]) ∧ Rd w' A' xs ∧ TS [g] w w' := by
  have HR := Lib.hid hr
  have HX := Lib.hid hx
  have HROW := Lib.hid hrow
  have HM := Lib.hid hm
  have hm2 : (c : Int) ≤ 9223372036854775807 := by unfold maxLen at hm; omega
  have h4z : (4 : Int) ≤ (c : Int) := by omega
  obtain ⟨q0, q1⟩ := row2 hrow
  obtain ⟨r0, r1⟩ := row2 ((((FB.refl w).alloc (.cells #[] 5)).block _ (Array.getElem?_eq_some_iff.1 hrow).1).trans hrow)
  clear hr hx hrow hm
  go_enter Try.func72, Try.ntmps72
  go_upto_region 6 with (at_builtin; refine wpList_append_bytes rfl _ _ rfl w.heap.size _ [] (OwnV.lit _ w [] (by simp)) rfl (some ⟨b, 0, none⟩) c xs (by rw [HX.out]; rfl) (HR.out.alloc _) (by simp [HX.out]) (by simp) ?_; intro v' w1 ho hg _; have HO := Lib.hid ho; have HG := Lib.hid hg; clear ho hg)
  have HO1 := Lib.hid (show Own w1 w.heap.size v' xs from by have := HO.out; rwa [List.nil_append] at this)
  have hfb := ((FB.refl w).alloc (.cells #[] 5)).grown HG.out (by simp [Value.ownBlock])
  have hrow1 := (hfb.block _ (Array.getElem?_eq_some_iff.1 HROW.out).1).trans HROW.out
  obtain ⟨s0, s1⟩ := row2 hrow1
  have sf := frozen_row _ hrow1 0
  have HTS := Lib.hid (fun v0 => show TS [g] w (w1.setCell ⟨g, 0, none⟩ v0) from (TS.of hfb).then (TS.tb (TB.set w1 0 _) (by simp)))
  obtain ⟨A', c', rfl, -, -, h3, -⟩ := Own.form HO1.out
  have HRD := Lib.hid (fun v0 => (show TS [g] w1 (w1.setCell ⟨g, 0, none⟩ v0) from TS.tb (TB.set w1 0 _) (by simp)).rd h3 (fun ad ha hm => by
    have h1 := ((Own.info HO1.out).2.2.2.2 ad ha).1
    have h2 := (Array.getElem?_eq_some_iff.1 HROW.out).1
    simp at hm; omega))
  rw [HX.out]
  clear q0 q1 r0 r1 HO HG HO1 hfb hrow1 HR HROW h3
  by_cases h5 : c = 4
  · subst h5
    go_wp2_with fail
    go_ret2
    exact ⟨A', c', rfl, HRD.out _, HTS.out _⟩
  · have h6 : 4 < c := by omega
    have h7 : (4 : Int) < (c : Int) := by omega
    go_wp2_with fail
    go_ret2
    exact ⟨A', c', rfl, HRD.out _, HTS.out _⟩
set_option maxHeartbeats 1000000 in
theorem rr_Word (xs : List Byte) (g b c : Nat) (w : World) (hx : xs.length = 4) (hrow : w.heap[g]? = some (.cells #[.slice (some ⟨b, 0, none⟩) 4 c, .int .i64 0] 113 (0, 0))) (hr : Rd w (some ⟨b, 0, none⟩) xs) (h4 : 4 ≤ c) (hm : c ≤ maxLen) :
    Calls Try.prog 53 #[.pointer (some ⟨g, 0, none⟩), .int .i64 4] w fun e w' => e = .returned (.int .u64 (nb (xword xs))) ∧ TS [g] w w' := by
  have HC := Lib.hid (rr_take xs g b c w hx hrow hr h4 hm)
  have HX := Lib.hid hx
  obtain ⟨q0, q1⟩ := row2 hrow
  clear hx hrow hr h4 hm
  go_enter Try.func53, Try.ntmps53
  go_wp2_with fail
  refine HC.out.mono ?_
  rintro e w1 ⟨A', c', rfl, hr, hts⟩
  have HR := Lib.hid hr
  have HTS := Lib.hid hts
  clear hr hts q0 q1 HC
  go_wp2_with fail
  go_loop [7, 8] (fun s i => ∃ j : Nat, j ≤ 4 ∧ i = .int .i64 j ∧ s = .int .u64 (nb (xword (xs.take j)))) (fun _ i => 4 - (intOf i).toNat)
  case atStart => exact ⟨0, by omega, rfl, by simp [xword, nb_zero]⟩
  case round =>
    obtain ⟨j, hj, rfl, rfl⟩ := hrel
    by_cases hlt : j < 4
    · obtain ⟨b0, o0, rfl, hb0, hcell⟩ := HR.out.form (by rw [HX.out]; omega)
      have hc := hcell j (by rw [HX.out]; omega)
      have HS := Lib.hid (show xword (xs.take (j + 1)) = xword (xs.take j) + ((xs[j]'(by rw [HX.out]; omega)).setWidth 64) <<< (8 * j) by
        rw [List.take_succ_eq_append_getElem (by rw [HX.out]; omega), xword_add, show (xs.take j).length = j by rw [List.length_take, HX.out]; omega])
      clear hcell
      have hjx : (j : Int) < 4 := by omega
      generalize xs[j]'(by rw [HX.out]; omega) = y at *
      generalize xword (xs.take j) = s at *
      have hsh : IntKind.u64.wrap (nb y * 2 ^ (8 * j)) = nb (y.setWidth 64 <<< (8 * j)) := by rw [← wrap_shl, nb_setWidth y (by omega)]
      have hor := wrap_add64 s (y.setWidth 64 <<< (8 * j))
      unfold vb at hc
      have hwy : IntKind.u64.wrap (nb y) = nb y := by rw [wrap_u64]; exact Int.emod_eq_of_lt (nb_nonneg _) (by have := nb_lt8 y; omega)
      go_wp2
      go_round
      case rel => exact ⟨j + 1, by omega, by go_num, by rw [HS.out, ← hor, ← hsh]⟩
      case measure => simp [intOf]; omega
    · obtain rfl : j = 4 := by omega
      go_wp2
      go_ret
      exact ⟨by rw [List.take_of_length_le (by rw [HX.out]; omega)]; rfl, HTS.out⟩
end Go.Proofs.Ytihljjfnjclefaa
/- The walks through the reference of chapter 3, and the chapter's examples. -/
set_option linter.unusedVariables false
set_option linter.unusedSimpArgs false
namespace Go.Proofs.Ytihljjfnjclefaa
open Go.ChangeShapes Go.WideShapes Go.ChangeAt Go.RowKit
attribute [local go_sem] nb_beq nb_bne nb_beq1 nb_mod8 nb_mod2 nb_tmod2 nb_shr_8 nb_shr_1 bits_xor32 bits_and32 bits_xor8 bits_xor32l bits_and32l bits_not32 BitVec.setWidth_eq nb_nonneg nb_lt8

theorem info_tab : (Try.prog.info? 120).map (·.size) = some 256 := (zero_of_info zero_tab).2

theorem size_tab' {T : Array Value} (h : TabTo T 256) : (Try.prog.info? 120).map (·.size) = some T.toList.length := by rw [Array.length_toList, h.1]; exact info_tab
set_option maxRecDepth 100000 in
set_option maxHeartbeats 400000 in
theorem ref_On (T : Array Value) (t : Byte → BitVec 32) (s : BitVec 32) (xs : List Byte) (A : Option Addr) (c : Nat) (w : World) (hc : xs.length ≤ c) (hm : c ≤ maxLen) (hr : Rd w A xs) (hT : IsTab T t) :
    Calls Try.prog 84 #[.agg T, .int .u32 (nb s), .slice A xs.length c] w fun e w' => e = .returned (.int .u32 (nb (crcOn t s xs))) ∧ w.alloc (.cells T 120) = w' := by
  have HT := Lib.hid hT
  have HR := Lib.hid hr
  clear hT hr
  unfold maxLen at hm
  go_enter Try.func84, Try.ntmps84
  go_wp2
  go_loop [7, 8] (fun st i => ∃ k : Nat, k ≤ xs.length ∧ i = .int .i64 k ∧ st = .int .u32 (nb ((xs.take k).foldl (crcStep t) (~~~ s)))) (fun _ i => xs.length - (intOf i).toNat)
  case atStart => exact ⟨0, by omega, rfl, by simp⟩
  case round =>
    obtain ⟨k, hk, rfl, rfl⟩ := hrel
    by_cases hlt : k < xs.length
    · obtain ⟨b, o, rfl, hb, hcell⟩ := HR.out.form (by omega)
      have hck := hcell k hlt
      unfold vb at hck
      clear hcell
      have hsn : List.foldl (crcStep t) (~~~s) (List.take (k + 1) xs) = crcStep t (List.foldl (crcStep t) (~~~s) (List.take k xs)) xs[k] := by
        rw [List.take_succ_eq_append_getElem hlt, List.foldl_append]; rfl
      have HS := Lib.hid hsn
      clear hsn
      generalize hst : List.foldl (crcStep t) (~~~s) (List.take k xs) = st at *
      have HST := Lib.hid hst
      clear hst
      generalize hx : xs[k] = x at *
      have HX := Lib.hid hx
      clear hx
      have ht := HT.out.2 (st.setWidth 8 ^^^ x)
      go_wp2
      go_round
      case rel => exact ⟨k + 1, by omega, by go_num, by rw [HS.out]; rfl⟩
      case measure => simp [intOf]; omega
    · go_wp2
      go_ret
      have : k = xs.length := by omega
      subst this
      exact ⟨by simp [crcOn], rfl⟩

set_option maxRecDepth 100000 in
set_option maxHeartbeats 400000 in
theorem ref_Table (w : World) :
    Calls Try.prog 85 #[] w fun e w' => ∃ T, e = .returned (.agg T) ∧ TabTo T 256 ∧ Below w.heap.size w w' := by
  have hz := (zero_of_info zero_tab).1
  go_enter Try.func85, Try.ntmps85
  go_wp2
  clear hz
  go_loopw [2, 3, 4] (fun i _ _ wr => ∃ k C, k ≤ 256 ∧ i = .int .i64 (k : Nat) ∧ wr = (w.alloc (.cells zeroTab 120)).alloc (.cells C 120) ∧ TabTo C k) (fun i _ _ _ => 256 - (intOf i).toNat)
  case atStart => exact ⟨0, zeroTab, by omega, rfl, rfl, TabTo.zero⟩
  case round =>
    obtain ⟨k, C, hk, rfl, rfl, hC⟩ := hrel
    by_cases hlt : k < 256
    · obtain ⟨v, hv⟩ := hC.at k hlt
      have hset := hC.set hlt
      have HC := Lib.hid hset
      clear hC hset
      go_wp2
      go_loop [3, 4] (fun x j => ∃ n : Nat, n ≤ 8 ∧ j = .int .i64 n ∧ x = .int .u32 (nb (crcBits n (BitVec.ofNat 32 k)))) (fun _ j => 8 - (intOf j).toNat)
      case atStart => exact ⟨0, by omega, rfl, by rw [show crcBits 0 (BitVec.ofNat 32 k) = BitVec.ofNat 32 k from rfl, ofNat32_nb k hlt]⟩
      case round =>
        obtain ⟨n, hn, rfl, rfl⟩ := hrel
        by_cases hln : n < 8
        · have hsucc := crcBits_succ n (BitVec.ofNat 32 k)
          have HS := Lib.hid hsucc
          clear hsucc
          generalize crcBits n (BitVec.ofNat 32 k) = x at *
          by_cases hb : x &&& 1#32 = 1#32
          · have hb1 : (x &&& 1#32 == 1#32) = true := by rw [hb]; rfl
            have HE : crcBit x = (x >>> 1) ^^^ 0x82f63b78#32 := by unfold crcBit; rw [if_pos hb]
            have HE := Lib.hid HE
            clear hb
            go_wp2
            go_round
            case rel => exact ⟨n + 1, by omega, by go_num, by rw [HS.out, HE.out]⟩
            case measure => simp [intOf]; omega
          · have hb1 : (x &&& 1#32 == 1#32) = false := beq_eq_false_iff_ne.2 hb
            have HE : crcBit x = x >>> 1 := by unfold crcBit; rw [if_neg hb]
            have HE := Lib.hid HE
            clear hb
            go_wp2
            go_round
            case rel => exact ⟨n + 1, by omega, by go_num, by rw [HS.out, HE.out]⟩
            case measure => simp [intOf]; omega
        · obtain rfl : n = 8 := by omega
          go_wp2
          go_roundw
          case rel => exact ⟨k + 1, _, by omega, by go_num, rfl, HC.out⟩
          case measure => simp [intOf]; omega
    · obtain rfl : k = 256 := by omega
      have hsz : (Try.prog.info? 120).map (·.size) = some C.size := by rw [hC.1]; exact info_tab
      have hall : C.all (·.oneCell') = true := by rw [← Array.all_toList]; exact List.all_eq_true.2 hC.2.1
      have hl := run_loadAt_new (P := Try.prog) (w.alloc (.cells zeroTab 120)) 120 C 256 69 Try.underlying120 hsz
      rw [show (w.alloc (.cells zeroTab 120)).heap.size = w.heap.size + 1 from by simp] at hl
      have hs : (Instr.storeAt 120 (.pointer (some ⟨w.heap.size, 0, none⟩)) (.agg C)).run Try.prog ((w.alloc (.cells zeroTab 120)).alloc (.cells C 120)) = .ok () (((w.alloc (.cells zeroTab 120)).alloc (.cells C 120)).setRow w.heap.size C) := by
        simp only [Instr.storeAt, Instr.sureAddr, Sem.run_bind, Sem.run_pure, Result.andThen]
        exact run_storeVar_row _ _ _ _ zeroTab C (heap_alloc2_old _ _ _) hsz (by rw [zeroTab_size, hC.1]) hall
      have hg : (((w.alloc (.cells zeroTab 120)).alloc (.cells C 120)).setRow w.heap.size C).heap[w.heap.size]? = some (.cells C 120 (0, 0)) := setRow_heap _ _ zeroTab C _ _ (heap_alloc2_old _ _ _)
      have hbl : Below w.heap.size w (((w.alloc (.cells zeroTab 120)).alloc (.cells C 120)).setRow w.heap.size C) :=
        ⟨rfl, rfl, rfl, by simp [World.setRow]; omega, fun k hk => (setRow_other _ w.heap.size k C (by omega)).trans ((Below.heap_alloc _ _ k (by simp; omega)).trans (Below.heap_alloc _ _ k hk))⟩
      have HC := Lib.hid hC
      have HZ := Lib.hid hsz
      have HG := Lib.hid hg
      have HB := Lib.hid hbl
      clear hC hsz hall hg hbl
      generalize hW : ((w.alloc (.cells zeroTab 120)).alloc (.cells C 120)).setRow w.heap.size C = W at *
      clear hW
      go_wp2_with (first | (refine wpList_load_by rfl _ _ rfl _ hl ?_) | (refine wpList_store_by rfl _ _ _ rfl _ hs ?_))
      exact bodyPost_ret (v := .agg C) (results_cell_row Try.results85 _ _ w.heap.size 120 C (0, 0) _ rfl HG.out Try.underlying120 rfl HZ.out) rfl ⟨C, rfl, HC.out, HB.out⟩

set_option maxRecDepth 100000 in
set_option maxHeartbeats 400000 in
theorem ref_Sum (xs : List Byte) (A : Option Addr) (c : Nat) (w : World) (hc : xs.length ≤ c) (hm : c ≤ maxLen) (hr : Rd w A xs) :
    Calls Try.prog 79 #[.slice A xs.length c] w fun e w' => e = .returned (.int .u32 (nb (crcSum xs))) ∧ Below w.heap.size w w' := by
  have HR := Lib.hid hr
  clear hr
  go_enter Try.func79, Try.ntmps79
  go_wp2_with fail
  refine (ref_Table _).mono ?_
  rintro e w1 ⟨T, rfl, hT, hb⟩
  have HT := Lib.hid hT
  have HB := Lib.hid hb
  clear hT hb
  go_wp2_with fail
  rw [show (0 : Int) = nb 0#32 from nb_zero.symm]
  refine (ref_On T crcT _ xs A c _ hc hm (HR.out.below HB.out) HT.out.tab).mono ?_
  rintro e w2 ⟨rfl, rfl⟩
  go_wp2
  go_ret
  exact ⟨rfl, HB.out.alloc HB.out.size _⟩

end Go.Proofs.Ytihljjfnjclefaa
/- the reference of layer 5: sum. -/
set_option linter.unusedVariables false
set_option linter.unusedSimpArgs false
namespace Go.Proofs.Ytihljjfnjclefaa
open Go.ChangeShapes Go.WideShapes Go.ChangeAt Go.RowKit
attribute [local go_sem] nb_nonneg nb_lt8 nb_lt64
set_option maxRecDepth 100000

theorem OwnV.cellset {e : TypeId} {w : World} {base n g c : Nat} {vs : List Value} (h : OwnV e w base (.slice (some ⟨g, 0, none⟩) n c) vs) {j : Nat} (hj : j < vs.length) :
    w.cell? ⟨g, j, none⟩ = some vs[j] ∧ w.frozen? ⟨g, j, none⟩ = false ∧ ∀ u, OwnV e (w.setCell ⟨g, j, none⟩ u) base (.slice (some ⟨g, 0, none⟩) n c) (vs.set j u) := by
  obtain ⟨_, _, _, hn, _⟩ := OwnV.info h
  subst hn
  have hr := h
  unfold OwnV at hr
  refine ⟨?_, World.ownsRow.frozenAt hr j, fun u => ?_⟩
  · rw [World.ownsRow.cellAt hr j (by omega), List.getElem?_eq_getElem hj]
  · have := (World.ownsRow.stored hr j u).1
    unfold OwnV
    rw [List.length_set]
    exact this
def zro (b : List Byte) (k : Nat) : List Byte := b.take 12 ++ (List.replicate k 0#8 ++ b.drop (12 + k))
theorem zro_zero (b : List Byte) : zro b 0 = b := by simp [zro]
theorem zro_four (b : List Byte) : zro b 4 = b.take 12 ++ (z4 ++ b.drop 16) := rfl
theorem zro_len {b : List Byte} {k : Nat} (h : 12 + k ≤ b.length) : (zro b k).length = b.length := by simp [zro]; omega
theorem zro_succ {b : List Byte} {k : Nat} (h : 12 + k < b.length) : (zro b k).set (12 + k) 0#8 = zro b (k + 1) := by
  have l12 : (b.take 12).length = 12 := by simp; omega
  unfold zro
  rw [List.set_append, if_neg (by omega), l12, List.set_append, if_neg (by simp), List.length_replicate, show 12 + k - 12 - k = 0 from by omega, List.drop_eq_getElem_cons h, List.set_cons_zero, List.replicate_succ', List.append_assoc, show 12 + (k + 1) = 12 + k + 1 from rfl]
  rfl
set_option maxHeartbeats 2000000 in
theorem r5_sum (b : List Byte) (A : Option Addr) (c : Nat) (w : World) (hl : b.length = 4096) (hr : Rd w A b) :
    Calls Try.prog 71 #[.slice A 4096 c] w fun e w' => e = .returned (.int .u32 (nb (crcSum (b.take 12 ++ (z4 ++ b.drop 16))))) ∧ FB w w' := by
  have HR := Lib.hid hr
  have HL := Lib.hid hl
  clear hr hl
  go_enter Try.func71, Try.ntmps71
  go_upto_region 2 with (at_builtin; refine wpList_append_bytes rfl _ _ rfl w.heap.size _ [] (OwnV.lit _ w [] (by simp)) rfl A c b (by rw [HL.out]; rfl) (HR.out.alloc _) (by simp [HL.out]) (by simp) ?_; intro v' w1 ho hg _; obtain ⟨A', c', e', -, -, -, -⟩ := Own.form ho; rw [List.nil_append, HL.out] at e'; subst e'; rw [List.nil_append] at ho; have HO := Lib.hid ho; have HG := Lib.hid hg; clear ho hg)
  obtain ⟨g, rfl, hg1, -⟩ := OwnV.head0 HO.out (by rw [vbs_length, HL.out]; omega)
  have HFB := Lib.hid (((FB.refl w).alloc (.cells #[] 5)).grown HG.out (by simp [Value.ownBlock]))
  have HGB := Lib.hid hg1
  clear hg1 HG
  go_wp2_with fail
  go_loopw [4] (fun c4 wl => ∃ k : Nat, k ≤ 4 ∧ c4 = .int .i64 (12 + (k : Int)) ∧ Hid (Own wl w.heap.size (.slice (some ⟨g, 0, none⟩) 4096 c') (zro b k)) ∧ Hid (FB w wl)) (fun c4 wl => 16 - (intOf c4).toNat)
  case atStart => exact ⟨0, by omega, rfl, Lib.hid (by rw [zro_zero]; exact HO.out), HFB.out⟩
  case round =>
    obtain ⟨k, hk, rfl, HOK, HW⟩ := hrel
    by_cases hlt : k < 4
    · obtain ⟨q, hq⟩ : ∃ q, q = 12 + k := ⟨_, rfl⟩
      rw [show (12 : Int) + (k : Int) = (q : Int) from by omega]
      have hq16 : (q : Int) < 16 := by omega
      have hq4 : (q : Int) < 4096 := by omega
      have hwq : IntKind.i64.wrap ((q : Int) + 1) = (q : Int) + 1 := by rw [IntKind.wrap_i64]; omega
      have HLZ := Lib.hid (show (zro b k).length = 4096 from by rw [zro_len (by rw [HL.out]; omega), HL.out])
      obtain ⟨s0, sf, sset⟩ := OwnV.cellset HOK.out (j := q) (by rw [vbs_length, HLZ.out]; omega)
      rw [vbs_get _ _ (by rw [HLZ.out]; omega)] at s0
      unfold vb at s0
      have HO2 := Lib.hid (show Own (wr.setCell ⟨g, q, none⟩ (.int .u8 0)) w.heap.size (.slice (some ⟨g, 0, none⟩) 4096 c') (zro b (k + 1)) from by
        have h1 := sset (vb 0#8)
        unfold Own
        rw [← zro_succ (by rw [HL.out]; omega), ← hq, show vbs ((zro b k).set q 0#8) = (vbs (zro b k)).set q (vb 0#8) from by unfold vbs; rw [List.map_set]]
        exact h1)
      have HW2 := Lib.hid (HW.out.set (p := ⟨g, q, none⟩) HGB.out (.int .u8 0))
      have HQ := Lib.hid hq
      have HLT := Lib.hid hlt
      generalize (zro b k)[q]'(by rw [HLZ.out]; omega) = zq at *
      clear sset hq hlt hk
      go_wp2_with fail
      go_roundw
      case rel => exact ⟨k + 1, by have := HLT.out; omega, by have := HQ.out; go_num, HO2.out, HW2.out⟩
      case measure => have := HQ.out; have := HLT.out; simp [intOf]; omega
    · obtain rfl : k = 4 := by omega
      have hcw := ref_Sum (zro b 4) (some ⟨g, 0, none⟩) c' wr (Own.info HOK.out).1 (Own.info HOK.out).2.1 (Own.info HOK.out).2.2.1
      rw [zro_len (by rw [HL.out]; omega), HL.out, zro_four] at hcw
      have HC := Lib.hid hcw
      rw [show (12 : Int) + ((4 : Nat) : Int) = 16 from rfl]
      clear hcw hk hlt
      go_wp2_with fail
      refine HC.out.mono ?_
      rintro e w5 ⟨rfl, hb⟩
      have HE := Lib.hid (HW.out.call hb)
      clear hb
      go_wp2
      go_ret
      exact ⟨rfl, HE.out⟩
end Go.Proofs.Ytihljjfnjclefaa
/- the reference of layer 5: Bytes. -/
set_option linter.unusedVariables false
set_option linter.unusedSimpArgs false
namespace Go.Proofs.Ytihljjfnjclefaa
open Go.ChangeShapes Go.WideShapes Go.ChangeAt Go.RowKit
attribute [local go_sem] nb_nonneg nb_lt8 nb_lt64
set_option maxRecDepth 100000

theorem append_none (w : World) {base : Nat} {A : Option Addr} {l c : Nat} (xs : List Byte) (h : Own w base (.slice A l c) xs) (hl : xs.length = l) (h0 : 0 < l) (ty : TypeId) :
    (Builtin.append_ #[22, 3] ty #[.slice A l c, .int .i64 ((0 : Nat) : Int)]).run Try.prog w = .ok (.slice A l c) w := by
  obtain ⟨i, hi, hz, hsz, hby⟩ := info_parts info_u8
  have hc := (Own.info h).1
  rw [hl] at hc
  obtain ⟨g, rfl, -, -⟩ := OwnV.head0 h (by rw [vbs_length]; omega)
  have hw : IntKind.i64.wrap 0 = 0 := rfl
  simp [Builtin.append_, run_underlying Try.underlying22, run_underlying Try.underlying3, sizeOf, typeInfo, hi, hsz, hby, asInt, asIntOf, hw, hc, storeCells]
set_option maxHeartbeats 4000000 in
theorem r5_Bytes (K : Int) (n : BitVec 32) (x : List Byte) (A : Option Addr) (c : Nat) (w : World) (hx : x.length ≤ 1000000000) (hr : Rd w A x) :
    Calls Try.prog 49 #[.agg #[.int .i64 K, .int .u32 (nb n), .slice A x.length c]] w fun e w' => PgBy (pgB K n x) w e w' := by
  have HF := Lib.hid ((FB.refl w).alloc (.cells #[.int .i64 K, .int .u32 (nb n), .slice A x.length c] 71))
  have HR := Lib.hid hr
  obtain ⟨R, hR⟩ : ∃ R, R = pgB K n x := ⟨_, rfl⟩
  rw [← hR]
  unfold pgB at hR
  clear hr
  by_cases h1 : K < 1
  · obtain rfl : R = ([], 2) := by rw [hR, if_neg (by rw [pgOk_iff]; omega)]
    clear hR
    go_enter Try.func49, Try.ntmps49
    go_wp2
    go_ret2
    exact ⟨none, 0, rfl, Own.nil _ _, HF.out⟩
  · by_cases h2 : 7 < K
    · obtain rfl : R = ([], 2) := by rw [hR, if_neg (by rw [pgOk_iff]; omega)]
      clear hR
      go_enter Try.func49, Try.ntmps49
      go_wp2
      go_ret2
      exact ⟨none, 0, rfl, Own.nil _ _, HF.out⟩
    · by_cases h3 : 4080 < x.length
      · obtain rfl : R = ([], 2) := by rw [hR, if_neg (by rw [pgOk_iff]; omega)]
        have h3z : 4080 < (x.length : Int) := by omega
        clear hR h3
        go_enter Try.func49, Try.ntmps49
        go_wp2
        go_ret2
        exact ⟨none, 0, rfl, Own.nil _ _, HF.out⟩
      · rw [if_pos (pgOk_iff.2 (by omega))] at hR
        have HRR := Lib.hid hR
        have h3z : ¬ 4080 < (x.length : Int) := by omega
        have HX := Lib.hid (show x.length ≤ 4080 from by omega)
        have hwK : IntKind.u8.wrap K = K := by rw [IntKind.wrap_u8]; omega
        have hwn : IntKind.u64.wrap (nb n) = nb n := by rw [wrap_u64]; have := nb_lt32 n; have := nb_nonneg n; omega
        obtain ⟨k, hk⟩ : ∃ k, k = BitVec.ofInt 8 K := ⟨_, rfl⟩
        have HKN := Lib.hid (show nb k = K from by rw [hk]; exact nb_kind (by omega))
        rw [← hk] at HRR
        have HLIT := Lib.hid (show ∀ W : World, Rd (W.alloc (.cells #[.int .u8 84, .int .u8 77, .int .u8 1, .int .u8 K] 5)) (some ⟨W.heap.size, 0, none⟩) [0x54#8, 0x4d#8, 1#8, k] from fun W => by
          unfold Rd
          rw [show vbs [0x54#8, 0x4d#8, 1#8, k] = [.int .u8 84, .int .u8 77, .int .u8 1, .int .u8 K] from by rw [← HKN.out]; rfl]
          exact RdV.lit W [.int .u8 84, .int .u8 77, .int .u8 1, .int .u8 K] 5 rfl)
        have HWD := Lib.hid (fun W => by
          have := ref_Word [0x54#8, 0x4d#8, 1#8, k] (some ⟨W.heap.size, 0, none⟩) 4 4 (n.setWidth 64) 4 (W.alloc (.cells #[.int .u8 84, .int .u8 77, .int .u8 1, .int .u8 K] 5)) rfl (by simp) (HLIT.out W) (.inr (.inl rfl))
          rw [nb_setWidth n (by omega)] at this
          exact this.mono (fun e w' h => by
            obtain ⟨v, h1, h2, h3⟩ := h
            exact (show ∃ v, e = .returned v ∧ Own w' W.heap.size v (hd8 k n) ∧ FB W w' from ⟨v, h1, h2.lower (by simp), ((FB.refl W).alloc _).call h3⟩)))
        have HBX := Lib.hid (heap_alloc_new w (.cells #[.int .i64 K, .int .u32 (nb n), .slice A x.length c] 71))
        clear hR hk h3
        go_enter Try.func49, Try.ntmps49
        go_wp2_with fail
        have hcw := HWD.out (w.alloc (.cells #[.int .i64 K, .int .u32 (nb n), .slice A x.length c] 71))
        simp only [World.size_alloc] at hcw
        refine hcw.mono ?_
        rintro e w1 ⟨v, rfl, ho, hb⟩
        obtain ⟨A1, c1, rfl, -, -, -, -⟩ := Own.form ho
        rw [hd8_len] at ho ⊢
        have HF1 := Lib.hid (HF.out.trans hb)
        have HBX1 := Lib.hid ((hb.block _ (Array.getElem?_eq_some_iff.1 HBX.out).1).trans HBX.out)
        have HG1 := Lib.hid (show w.heap.size + 1 ≤ w1.heap.size from by have := hb.le; simpa using this)
        have HO1 := Lib.hid ho
        have HLZ := Lib.hid (show ∀ W : World, Rd (W.alloc (.cells #[.int .u8 0, .int .u8 0, .int .u8 0, .int .u8 0, .int .u8 0, .int .u8 0, .int .u8 0, .int .u8 0] 5)) (some ⟨W.heap.size, 0, none⟩) (z4 ++ z4) from fun W => RdV.lit W (vbs (z4 ++ z4)) 5 rfl)
        clear hcw ho hb HWD HLIT HBX HF hwK hwn
        go_upto_region 6 with (at_builtin; refine wpList_append_bytes rfl _ _ rfl (w.heap.size + 1) _ _ (HO1.out.alloc _) rfl (some ⟨w1.heap.size, 0, none⟩) 8 (z4 ++ z4) rfl (HLZ.out w1) (by rw [hd8_len]; simp [z4]) (by have := HG1.out; simp; omega) ?_; intro v' w2 ho hg _; have HO2 := Lib.hid ho; have HG := Lib.hid hg; clear ho hg)
        have hlo := fun k hk => (OwnV.base HO1.out k hk).1
        have HF2 := Lib.hid ((HF1.out.alloc (.cells #[.int .u8 0, .int .u8 0, .int .u8 0, .int .u8 0, .int .u8 0, .int .u8 0, .int .u8 0, .int .u8 0] 5)).grown HG.out (fun k hk => by have := hlo k hk; omega))
        have HBX2 := Lib.hid ((HG.out.block _ (Nat.lt_of_lt_of_le (Array.getElem?_eq_some_iff.1 HBX1.out).1 (by simp)) (fun e => by have := hlo _ e.symm; omega)).trans (((FB.refl w1).alloc _).block _ (Array.getElem?_eq_some_iff.1 HBX1.out).1 |>.trans HBX1.out))
        have HS2 := Lib.hid (show w.heap.size + 1 ≤ w2.heap.size from (Array.getElem?_eq_some_iff.1 HBX2.out).1)
        have hl2 : (hd8 k n ++ (z4 ++ z4)).length = 16 := by simp [hd8_len, z4]
        obtain ⟨q0, q1, q2⟩ := prow3 HBX2.out
        clear hlo HG HO1 HLZ HBX1 HF1 HG1
        go_upto_region 7 with (at_builtin; refine wpList_append_bytes rfl _ _ rfl (w.heap.size + 1) _ _ HO2.out rfl A c x rfl (HF2.out.rd HR.out) (by rw [hl2]; have := HX.out; omega) HS2.out ?_; intro v' w3 ho hg _; have HO3 := Lib.hid ho; have HG := Lib.hid hg; clear ho hg)
        clear q0 q1 q2
        have hlo := fun k hk => (OwnV.base HO2.out k hk).1
        have HF3 := Lib.hid (HF2.out.grown HG.out (fun k hk => by have := hlo k hk; omega))
        have HS3 := Lib.hid (show w.heap.size + 1 ≤ w3.heap.size from Nat.le_trans HS2.out HG.out.size)
        have hl3 : (hd8 k n ++ (z4 ++ z4) ++ x).length = 16 + x.length := by rw [List.length_append, hl2]
        obtain ⟨A3, c3, e3, -, -, -, -⟩ := Own.form HO3.out
        rw [hl3] at e3
        subst e3
        have HO3' := Lib.hid HO3.out
        have hln : (hd8 k n ++ (z4 ++ z4) ++ x ++ List.replicate (4080 - x.length) 0#8) = pgB1 k n x := by
          unfold pgB1 pgPad; rw [pgHd_hd8]; simp only [List.append_assoc]
        obtain ⟨m, hm⟩ : ∃ m, m = 4080 - x.length := ⟨_, rfl⟩
        have hmz : (4096 : Int) - ((16 + x.length : Nat) : Int) = (m : Int) := by have := HX.out; omega
        have hmz2 : (4096 : Int) - (16 + (x.length : Int)) = (m : Int) := by have := HX.out; omega
        have hwm : IntKind.i64.wrap (m : Int) = (m : Int) := by rw [IntKind.wrap_i64]; omega
        obtain ⟨v2, w4, hrun, ho2, hgr⟩ : ∃ v' w', (∀ ty, (Builtin.append_ #[22, 3] ty #[.slice A3 (16 + x.length) c3, .int .i64 (m : Int)]).run Try.prog w3 = .ok v' w') ∧ Own w' (w.heap.size + 1) v' (pgB1 k n x) ∧ w3.grownBy w' (Value.slice A3 (16 + x.length) c3).ownBlock := by
          by_cases h0 : 0 < m
          · obtain ⟨v', w', h1, h2, h3⟩ := run_append_zeros w3 (w.heap.size + 1) _ _ HO3.out (by rw [hl3]; omega) m h0 (by rw [hl3]; omega) HS3.out
            rw [hm, hln] at h2
            exact ⟨v', w', h1, h2, h3⟩
          · have hm0 : m = 0 := by omega
            refine ⟨.slice A3 (16 + x.length) c3, w3, fun ty => by rw [hm0]; exact append_none w3 _ HO3.out (by rw [hl3]) (by omega) ty, ?_, World.grownBy.refl _ _⟩
            have q := HO3.out
            rw [show hd8 k n ++ (z4 ++ z4) ++ x = pgB1 k n x from by rw [← hln, ← hm, hm0]; simp] at q
            exact q
        have HRUN := Lib.hid hrun
        have hlo3 := fun k hk => (OwnV.base HO3.out k hk).1
        have HF4 := Lib.hid (HF3.out.grown hgr (fun k hk => by have := hlo3 k hk; omega))
        obtain ⟨A2, c2, rfl, hc2, hm2, -, -⟩ := Own.form ho2
        rw [pgB1_len k n HX.out] at ho2 hc2 HRUN
        obtain ⟨g, rfl, hg1, -⟩ := OwnV.head0 ho2 (by rw [vbs_length, pgB1_len k n HX.out]; omega)
        have HC2 := Lib.hid (And.intro hc2 hm2)
        have HO6 := Lib.hid ho2
        have HF6 := HF4
        have HGB := Lib.hid hg1
        clear hm hl3 hrun hgr hlo hlo3 ho2 hc2 hm2 hg1 hln HO3' HO3 HF3 HF2 HO2 HBX2 HG hl2
        go_upto_region 8 with (at_builtin; refine Lib.wpList_append_run _ rfl _ _ _ _ rfl _ _ rfl rfl _ _ (HRUN.out _) ?_)
        clear HRUN hmz hmz2 hwm
        have HCF := Lib.hid (show (12 : Int) ≤ (c2 : Int) ∧ (c2 : Int) ≤ 9223372036854775807 ∧ 12 < c2 from by have := HC2.out; simp only [maxLen] at this; omega)
        have hf2 := HCF.out.1
        have hf3 := HCF.out.2.1
        have hf6 : ¬ c2 = 12 := by have := HCF.out; omega
        generalize w4 = w6 at *
        obtain ⟨W0, hW0⟩ : ∃ W0 : World, W0 = w6 := ⟨_, rfl⟩
        rw [← hW0]
        refine region_sch (E := TS ([g])) ((0, true) :: (1, true) :: (2, true) :: (3, false) :: (4, true) :: (5, false) :: (6, false) :: []) (by kernel_rfl) (TS.refl _) (fun _ _ _ h k => TS.then h k) (fun _ _ d _ _ h => by cases d <;> exact h) (by kernel_rfl) ?_
        intro ops hops0
        have hops := Lib.hid hops0
        clear hops0
        have HF : TS ([g]) W0 W0.drew := TS.of (FB.refl _).drew
        have HD : FB W0 W0.drew := (FB.refl _).drew
        generalize W0.drew = wF0 at *
        rw [hW0] at HD
        have HFq := Lib.hid (HF6.out.trans HD)
        have HOq := Lib.hid (HD.own HO6.out)
        clear hW0 HD HF HF6 HO6
        repeat (refine sch_take (o := ?_) (v := ?_) (a' := ?_) (at_of hops.out ?_) ?_ (fun W hW => ?_) ?_ ?_; rotate_left 3; (focus (simp only [List.getElem?_toArray, List.getElem?_cons_zero, List.getElem?_cons_succ]; rfl)); (focus (rw [hops.out]; rfl)); (focus (go_simp; with_reducible rfl)); (focus (simp only [Act.put, List.setIfInBounds_toArray, List.set_cons_zero, List.set_cons_succ]; rfl)))
        have HCR := Lib.hid (show Calls Try.prog 71 #[.slice (some ⟨g, 0, none⟩) 4096 c2] wF0 fun e w' => e = .returned (.int .u32 (nb (pgSum k n x))) ∧ FB wF0 w' from by
          have h1 := r5_sum (pgB1 k n x) (some ⟨g, 0, none⟩) c2 wF0 (pgB1_len k n HX.out) (Own.info HOq.out).2.2.1
          rw [pgB1_take, pgB1_drop] at h1
          exact h1)
        (refine sch_call (o := ?_) (f := ?_) (args := ?_) (at_of hops.out ?_) ?_ ?_ ?_; rotate_left 3; (focus (simp only [List.getElem?_toArray, List.getElem?_cons_zero, List.getElem?_cons_succ]; rfl)); (focus (rw [hops.out]; rfl)); (focus (go_simp; constructor <;> with_reducible rfl)); (first | ((with_reducible refine (HCR.out).mono ?_); rintro e w7 ⟨rfl, hb⟩; refine ⟨_, rfl, (TS.of hb), ?_⟩; intro a' ha'; simp only [Act.put, List.setIfInBounds_toArray, List.set_cons_zero, List.set_cons_succ] at ha'; subst ha')))
        have HFr := Lib.hid (HFq.out.trans hb)
        have HOr := Lib.hid (FB.own hb HOq.out)
        clear hb HCR HOq HFq
        generalize hsm : pgSum k n x = sm at *
        have HSM := Lib.hid hsm
        have hws : IntKind.u64.wrap (nb sm) = nb sm := by rw [wrap_u64]; have := nb_lt32 sm; have := nb_nonneg sm; omega
        clear hsm
        repeat (refine sch_take (o := ?_) (v := ?_) (a' := ?_) (at_of hops.out ?_) ?_ (fun W hW => ?_) ?_ ?_; rotate_left 3; (focus (simp only [List.getElem?_toArray, List.getElem?_cons_zero, List.getElem?_cons_succ]; rfl)); (focus (rw [hops.out]; rfl)); (focus (go_simp; with_reducible rfl)); (focus (simp only [Act.put, List.setIfInBounds_toArray, List.set_cons_zero, List.set_cons_succ]; rfl)))
        have HW2 := Lib.hid (show Calls Try.prog 48 #[.slice none 0 0, .int .u64 (nb sm), .int .i64 4] w7 fun e w' => ∃ v, e = .returned v ∧ Own w' w7.heap.size v (oword 4 (sm.setWidth 64)) ∧ FB w7 w' from by
          have h1 := ref_Word [] none 0 0 (sm.setWidth 64) 4 w7 rfl (by simp) (Rd.nil _ _) (.inr (.inl rfl))
          rw [nb_setWidth sm (by omega)] at h1
          exact h1)
        (refine sch_call (o := ?_) (f := ?_) (args := ?_) (at_of hops.out ?_) ?_ ?_ ?_; rotate_left 3; (focus (simp only [List.getElem?_toArray, List.getElem?_cons_zero, List.getElem?_cons_succ]; rfl)); (focus (rw [hops.out]; rfl)); (focus (go_simp; constructor <;> with_reducible rfl)); (first | ((with_reducible refine (HW2.out).mono ?_); rintro e w8 ⟨v8, rfl, ho8, hb⟩; refine ⟨_, rfl, (TS.of hb), ?_⟩; intro a' ha'; simp only [Act.put, List.setIfInBounds_toArray, List.set_cons_zero, List.set_cons_succ] at ha'; subst ha')))
        obtain ⟨A8, c8, rfl, -, -, hr8, -⟩ := Own.form ho8
        have HFs := Lib.hid (HFr.out.trans hb)
        have HOs := Lib.hid (FB.own hb HOr.out)
        obtain ⟨w9, hrunc, hoc, htb⟩ := cp_run HOs.out 12 4084 (c2 - 12) A8 c8 (oword 4 (sm.setWidth 64)) hr8 (by rw [oword_len]; omega) (by rw [oword_len, pgB1_len k n HX.out]; omega)
        rw [pg_splice2 k n x (oword_len _ _)] at hoc
        rw [oword_len] at hrunc ⊢
        (refine cp_sch (o := ?_) (at_of hops.out ?_) ?_ (.tmp 41) (.tmp 45) 22 22 ?_ _ _ ?_ ?_ hrunc (TS.tb htb (by simp)) ?_; rotate_left 1; (focus (simp only [List.getElem?_toArray, List.getElem?_cons_zero, List.getElem?_cons_succ]; rfl)); (focus (rw [hops.out]; rfl)); (focus rfl); (focus rfl); (focus rfl))
        simp only [Act.put, List.setIfInBounds_toArray, List.set_cons_zero, List.set_cons_succ]
        refine sch_done ?_
        have HE := Lib.hid (HFs.out.ts (show TS [g] w8 w9 from TS.tb htb (by simp)) (fun y hy => by have := HGB.out; simp at hy; omega))
        have HO9 := Lib.hid (show Own w9 w.heap.size (.slice (some ⟨g, 0, none⟩) 4096 c2) (pgBytes k n x) from by
          unfold pgBytes; rw [HSM.out]; exact hoc.lower (by omega))
        clear hops hoc htb hrunc HOs HOr HFr HFs hr8 ho8 hb
        go_wp2
        go_ret2
        rw [HRR.out]
        exact ⟨some ⟨g, 0, none⟩, c2, by rw [pgBytes_len k n HX.out]; rfl, by rw [pgBytes_len k n HX.out]; exact HO9.out, HE.out⟩
end Go.Proofs.Ytihljjfnjclefaa
/- root: the reference's Bytes. -/
set_option linter.unusedVariables false
set_option linter.unusedSimpArgs false
namespace Go.Proofs.Ytihljjfnjclefaa
open Go.ChangeShapes Go.WideShapes Go.ChangeAt Go.RowKit
attribute [local go_sem] nb_nonneg nb_lt8 nb_lt64
set_option maxRecDepth 100000

theorem rtCs_cell {W : World} {g : Nat} {r : Rt} {t : TypeId} {fr : Nat × Nat} {k : Nat} (hk : k < 9) (h : W.heap[g]? = some (.cells (rtCs r) t fr)) : W.cell? ⟨g, k, none⟩ = some (.int .u64 (nb ((rtWs r)[k]'(by rw [rtWs_len]; exact hk)))) := by
  rw [cell_of_row _ _ _ _ _ _ h]
  rcases (show k = 0 ∨ k = 1 ∨ k = 2 ∨ k = 3 ∨ k = 4 ∨ k = 5 ∨ k = 6 ∨ k = 7 ∨ k = 8 by omega) with rfl | rfl | rfl | rfl | rfl | rfl | rfl | rfl | rfl <;> rfl
set_option maxHeartbeats 4000000 in
theorem r6_Bytes (r : Rt) (w : World) :
    Calls Try.prog 18 #[rtV r] w fun e w' => PgBy (rtB r) w e w' := by
  obtain ⟨W1, hW1⟩ : ∃ W1 : World, W1 = w.alloc (.cells (rtCs r) 29) := ⟨_, rfl⟩
  have HF := Lib.hid (show FB w W1 from by rw [hW1]; exact (FB.refl w).alloc _)
  have HG := Lib.hid (show W1.heap[w.heap.size]? = some (.cells (rtCs r) 29 (0, 0)) from by rw [hW1]; exact heap_alloc_new w _)
  have HW1 := Lib.hid hW1
  obtain ⟨q0, q1, q2, q3, q4, q5, q6, q7, q8⟩ := prow9 HG.out
  have hck := r6_Check r W1
  unfold rtV rtCs at hck
  have HCK := Lib.hid hck
  unfold rtV
  clear hW1 hck
  go_enter Try.func18, Try.ntmps18
  go_upto_region 1 with fail
  rw [← HW1.out]
  clear HW1
  go_wp2_with fail
  refine HCK.out.mono ?_
  rintro e w1 ⟨rfl, hb⟩
  have HF1 := Lib.hid (HF.out.trans hb)
  have HG1 := Lib.hid ((hb.block _ (Array.getElem?_eq_some_iff.1 HG.out).1).trans HG.out)
  clear q0 q1 q2 q3 q4 q5 q6 q7 q8 hb HCK
  obtain ⟨q0, q1, q2, q3, q4, q5, q6, q7, q8⟩ := prow9 HG1.out
  cases hok : rtOk r with
  | false =>
    have hc : rtChk r = 2 := by unfold rtChk; rw [hok]; rfl
    rw [hc]
    have HB := Lib.hid (rtB_off hok)
    clear hok hc
    go_wp2
    go_ret2
    rw [HB.out]
    exact ⟨none, 0, rfl, Own.nil _ _, HF1.out⟩
  | true =>
    have hc : rtChk r = 0 := by unfold rtChk; rw [hok]; rfl
    rw [hc]
    have HB := Lib.hid (show rtB r = pgB 1 (r.E.setWidth 32) (rtBody r) from by unfold rtB; rw [hok]; rfl)
    have HGB := Lib.hid (show w.heap.size < w1.heap.size from (Array.getElem?_eq_some_iff.1 HG1.out).1)
    clear hok hc HF HG
    obtain ⟨W2, hW2⟩ : ∃ W2 : World, W2 = w1.alloc (.cells (rtCs r) 26) := ⟨_, rfl⟩
    have HF2 := Lib.hid (show FB w1 W2 from by rw [hW2]; exact (FB.refl _).alloc _)
    have HL2 := Lib.hid (show W2.heap[w1.heap.size]? = some (.cells (rtCs r) 26 (0, 0)) from by rw [hW2]; exact heap_alloc_new w1 _)
    unfold rtCs at hW2
    have HW2 := Lib.hid hW2
    clear hW2
    go_upto_region 6 with fail
    rw [← HW2.out]
    clear HW2
    go_wp2_with fail
    go_loopw [5, 7] (fun v i wr => ∃ k : Nat, k ≤ 9 ∧ i = .int .i64 k ∧ Hid (Own wr W2.heap.size v (owords ((rtWs r).take k))) ∧ Hid (FB W2 wr)) (fun _ i _ => 9 - (intOf i).toNat)
    case atStart => exact ⟨0, by omega, rfl, Lib.hid (Own.nil _ _), Lib.hid (FB.refl _)⟩
    case round =>
      obtain ⟨k, hk, rfl, HO, HE⟩ := hrel
      obtain ⟨A, c, e', -, -, -, -⟩ := Own.form HO.out
      rw [owords_takeLen r k hk] at e'
      subst e'
      have HI := Lib.hid (Own.info HO.out)
      have HK := Lib.hid hk
      clear q0 q1 q2 q3 q4 q5 q6 q7 q8
      by_cases hlt : k < 9
      · have hkz : (k : Int) < 9 := by omega
        have hix := rtCs_cell hlt ((HE.out.block _ (Array.getElem?_eq_some_iff.1 HL2.out).1).trans HL2.out)
        have HOW := Lib.hid (owords_take (rtWs r) k (by rw [rtWs_len]; exact hlt))
        generalize (rtWs r)[k]'(by rw [rtWs_len]; exact hlt) = x at *
        have hcw := ref_Word (owords ((rtWs r).take k)) A (8 * k) c x 8 wr (by rw [owords_takeLen r k hk]) (by rw [owords_takeLen r k hk]; omega) HI.out.2.2.1 (.inr (.inr rfl))
        rw [show owordZ 8 x = oword 8 x from by simp [owordZ], ← HOW.out] at hcw
        have HC := Lib.hid hcw
        have HL := Lib.hid hlt
        clear hcw hlt hk
        go_wp2_with fail
        refine HC.out.mono ?_
        rintro e w2 ⟨v, rfl, ho, hb⟩
        have HO2 := Lib.hid (ho.lower (show W2.heap.size ≤ wr.heap.size from HE.out.le))
        have HE2 := Lib.hid (HE.out.trans hb)
        clear ho hb
        go_wp2_with fail
        go_round
        case rel => exact ⟨k + 1, by have := HL.out; omega, by go_num, HO2, HE2⟩
        case measure => have := HL.out; simp [intOf]; omega
      · obtain rfl : k = 9 := by omega
        have HG2 := Lib.hid (((HF2.out.trans HE.out).block _ (Array.getElem?_eq_some_iff.1 HG1.out).1).trans HG1.out)
        obtain ⟨q0, q1, q2, q3, q4, q5, q6, q7, q8⟩ := prow9 HG2.out
        have hcw := r5_Bytes 1 (r.E.setWidth 32) (rtBody r) A c wr (by rw [rtBody_len]; omega) (show Rd wr A (rtBody r) from HI.out.2.2.1)
        rw [rtBody_len, ← HB.out] at hcw
        have HC := Lib.hid hcw
        have hwn : IntKind.u32.wrap (nb r.E) = nb (r.E.setWidth 32) := by rw [IntKind.wrap_u32, nb_mod32]
        clear hcw hlt hk
        go_wp2_with fail
        refine HC.out.mono ?_
        rintro e w2 ⟨A2, c2, rfl, ho, hb⟩
        have HO2 := Lib.hid (ho.lower (show w.heap.size ≤ wr.heap.size from by have := HE.out.le; have := HF2.out.le; have := HGB.out; omega))
        have HE2 := Lib.hid (((HF1.out.trans HF2.out).trans HE.out).trans hb)
        clear ho hb
        go_wp2
        go_ret2
        exact ⟨A2, c2, rfl, HO2.out, HE2.out⟩
end Go.Proofs.Ytihljjfnjclefaa
