/- A disk: the walk through Crash. -/
import Derived.Test.YtbedpjpddcjpkaaDskG
set_option linter.unusedVariables false
set_option linter.unusedSimpArgs false
namespace Go.Proofs.Ytbedpjpddcjpkaa
open Go.ChangeShapes Go.WideShapes Go.ChangeAt Go.RowKit Go.MapKept

theorem row3 {W : World} {g : Nat} {a b c : Value} {t : TypeId} {fr : Nat × Nat} (h : W.heap[g]? = some (.cells #[a, b, c] t fr)) :
    W.cell? ⟨g, 0, none⟩ = some a ∧ W.cell? ⟨g, 1, none⟩ = some b ∧ W.cell? ⟨g, 2, none⟩ = some c := by
  refine ⟨?_, ?_, ?_⟩ <;> (rw [cell_of_row _ _ _ _ _ _ h]; rfl)
set_option maxRecDepth 100000 in
set_option maxHeartbeats 4000000 in
theorem dsk_Crash {w : World} {F : List Nat} {g n : Nat} {D : DiskSt} (h : Dsk w F g n D) (KA : Option Addr) (kc : Nat) (keep : List Bool) (torn bytes : Int) (hkr : RdV w KA (keep.map .bool)) (hKF : ∀ ad, KA = some ad → ad.block ∉ F) :
    Calls Try.prog 18 #[.pointer (some ⟨g, 0, none⟩), .agg #[.slice KA keep.length kc, .int .i64 torn, .int .i64 bytes]] w fun e w' => e = .returned (.int .i64 0) ∧ Dsk w' F g n ⟨crashB (keptLen keep torn bytes) D.M D.b D.M.length, [], none⟩ ∧ TS F w w' := by
  have hF := h.lt
  have hbx : w.heap.size ∉ F := fun hm => by have := hF _ hm; omega
  have hb := h.fb ((FB.refl w).alloc (.cells #[.slice KA keep.length kc, .int .i64 torn, .int .i64 bytes] 25))
  have H := Lib.hid hb
  have HOK := Lib.hid hb.ok
  have HKR := Lib.hid (((FB.refl w).alloc (.cells #[.slice KA keep.length kc, .int .i64 torn, .int .i64 bytes] 25)).rdV hkr)
  have HT0 := Lib.hid (TS.of (F := F) ((FB.refl w).alloc (.cells #[.slice KA keep.length kc, .int .i64 torn, .int .i64 bytes] 25)))
  obtain ⟨gb, c, gm, O, oc, L, V, hp⟩ := hb.parts
  obtain ⟨p0, p1, p2, p3⟩ := row4 hp.row
  rw [List.length_map] at p2
  have HP := Lib.hid hp
  have HBX := Lib.hid (heap_alloc_new w (.cells #[.slice KA keep.length kc, .int .i64 torn, .int .i64 bytes] 25))
  have HN2 := Lib.hid hb.ok.n2
  have HNB := Lib.hid hbx
  have HKF := Lib.hid hKF
  have HM := Lib.hid hb.ok.M
  have hml0 := hb.mlen
  have hml : D.M.length ≤ 32768 := Nat.le_trans hml0 hb.ok.n2
  clear hml0
  clear h hb hp hkr hF hbx hKF
  go_enter Try.func18, Try.ntmps18
  go_wp2_with fail
  refine (dsk_made H.out).mono ?_
  rintro e w1 ⟨rfl, rfl⟩
  generalize w.alloc (.cells #[.slice KA keep.length kc, .int .i64 torn, .int .i64 bytes] 25) = w0 at *
  go_wp2
  go_loopw [16] (fun i wr => ∃ j : Nat, j ≤ D.M.length ∧ i = .int .i64 j ∧ Hid (DskC wr F g n gb c gm O oc L V { D with b := crashB (keptLen keep torn bytes) D.M D.b j } (D.M.map (·.1))) ∧ Hid (TS F w0 wr)) (fun i _ => D.M.length - (intOf i).toNat)
  case atStart => exact ⟨0, by omega, rfl, HP.out, TS.refl _ _⟩
  case round =>
    obtain ⟨j, hj, rfl, HC, HT⟩ := hrel
    by_cases hlt : j < D.M.length
    · have hDC := HC.out
      obtain ⟨q0, q1, q2, q3⟩ := row4 hDC.row
      obtain ⟨pj, hpj⟩ : ∃ p, D.M[j]? = some p := ⟨_, List.getElem?_eq_getElem hlt⟩
      have HPJ := Lib.hid hpj
      have hpm := HM.out pj (List.mem_of_getElem? hpj)
      obtain ⟨kj, xj⟩ := pj
      simp only at hpm
      obtain ⟨kn, rfl⟩ : ∃ kn : Nat, kj = (kn : Int) := ⟨kj.toNat, by omega⟩
      have hkn : kn < n := by omega
      have HXJ := Lib.hid hpm.2.2
      -- the order's j-th
      have hordr := (OwnV.info hDC.order).2.2.1
      obtain ⟨ob, oo, rfl, hob, hocell⟩ := hordr.form (by simp; omega)
      have hoj := hocell j (by simpa using hlt)
      rw [show ((D.M.map (·.1)).map fun k => Value.int .i64 k)[j]'(by simpa using hlt) = .int .i64 (kn : Int) from by
        rw [List.getElem_map, List.getElem_map]
        have := HPJ.out
        rw [List.getElem?_eq_getElem hlt] at this
        simp only [Option.some.injEq] at this
        rw [this]] at hoj
      -- the cached bytes
      have hcg := cget_at hDC.nodupM HPJ.out
      simp only at hcg
      rcases hDC.vals.get (kn : Int) with ⟨-, e2⟩ | ⟨A2, c2, x2, e1, e2, hr2, k1, k2, k3⟩
      · rw [e2] at hcg; cases hcg
      · rw [show cget D.M (kn : Int) = some x2 from e2] at hcg
        obtain rfl : x2 = xj := by cases hcg; rfl
        have hlk : (Instr.lookup 61 (.map (some gm)) (.int .i64 (kn : Int)) false).run Try.prog wr = .ok (.slice A2 512 c2) wr := by
          have := map_lookup Try.underlying61 Try.underlying3 hDC.map (kn : Int) false (zeroB wr)
          rw [e1] at this
          simpa [HXJ.out] using this
        have HR2 := Lib.hid hr2
        have HC2 := Lib.hid (show 512 ≤ c2 from by rw [← HXJ.out]; exact k1)
        have hbrow : wr.heap[w.heap.size]? = some (.cells #[.slice KA keep.length kc, .int .i64 torn, .int .i64 bytes] 25 (0, 0)) := by
          rw [HT.out.block w.heap.size (Array.getElem?_eq_some_iff.1 HBX.out).1 HNB.out]; exact HBX.out
        obtain ⟨b0, b1, b2⟩ := row3 hbrow
        have HBR := Lib.hid hbrow
        have hjx : (j : Int) < (D.M.length : Int) := by omega
        have hkr1 : RdV wr KA (keep.map .bool) := RdV.move HKR.out (fun a v e hc => HT.out.cell hc (by
          cases KA with
          | none => cases e
          | some ad => simp at e; rw [← e]; exact HKF.out ad rfl))
        clear hDC hordr hocell hcg e1 e2 hr2 k1 k2 k3 hpj hpm hbrow
        by_cases hto : (j : Int) = torn ∧ 0 ≤ bytes ∧ bytes ≤ 512
        · obtain ⟨kb, rfl⟩ : ∃ kb : Nat, bytes = (kb : Int) := ⟨bytes.toNat, by omega⟩
          have hto1 : ((j : Int) == torn) = true := by simpa using hto.1
          have hkb : kb ≤ 512 := by omega
          have hkbI : (kb : Int) ≤ 512 := by omega
          have HKL := Lib.hid (show keptLen keep torn (kb : Int) j = kb from by unfold keptLen; rw [if_pos hto]; simp)
          have HCUT := Lib.hid (cut_hi A2 c2 x2 kb (by rw [HXJ.out]; exact hkb) (by rw [HXJ.out]; exact HC2.out))
          rw [HXJ.out] at HCUT
          clear hto
          go_wp2_with fail
          obtain ⟨W1, hW1⟩ : ∃ W1 : World, W1 = wr := ⟨_, rfl⟩
          subst hW1
          have HGB := Lib.hid (show w.heap.size ≠ gb from fun e => HNB.out (e ▸ HC.out.mem gb (by simp [dctl])))
          refine region_sch (E := TB (gb)) (((0, true) :: (1, true) :: (3, true) :: (4, true) :: (5, true) :: (6, true) :: (2, false) :: (7, false) :: [])) (by kernel_rfl) (TB.refl _) (fun _ _ _ h k => TB.trans h k) (fun _ _ d _ _ h => by cases d <;> exact h) (by kernel_rfl) ?_
          intro ops hops0
          have hops := Lib.hid hops0
          clear hops0
          have HF : TB (gb) W1 W1.drew := TB.of (FB.refl _).drew
          have HD : FB W1 W1.drew := (FB.refl _).drew
          generalize W1.drew = wF1 at *
          have HC4 := Lib.hid (HC.out.fb HD)
          have HBR4 := Lib.hid ((HD.block w.heap.size (Array.getElem?_eq_some_iff.1 HBR.out).1).trans HBR.out)
          have HR24 := Lib.hid (HD.rd HR2.out)
          repeat (refine sch_take (o := ?_) (v := ?_) (a' := ?_) (at_of hops.out ?_) ?_ (fun W hW => ?_) ?_ ?_; rotate_left 3; (focus (simp only [List.getElem?_toArray, List.getElem?_cons_zero, List.getElem?_cons_succ]; rfl)); (focus (rw [hops.out]; rfl)); (focus (obtain ⟨u0, u1, u2⟩ := row3 ((hW.out.block w.heap.size (Array.getElem?_eq_some_iff.1 HBR4.out).1 (fun e => HGB.out (by cases e; rfl))).trans HBR4.out); have u3 := HCUT.out W; go_simp; with_reducible rfl)); (focus (simp only [Act.put, List.setIfInBounds_toArray, List.set_cons_zero, List.set_cons_succ]; rfl)))
          have HWH := Lib.hid (HC4.out.whole ⟨crashB_len HOK.out.len HOK.out.M j, HOK.out.n1, HOK.out.n2, HOK.out.M, HOK.out.f⟩)
          have HQ0 := Lib.hid (row4 HC4.out.row).1
          (refine sch_call (o := ?_) (f := ?_) (args := ?_) (at_of hops.out ?_) ?_ ?_ ?_; rotate_left 3; (focus (simp only [List.getElem?_toArray, List.getElem?_cons_zero, List.getElem?_cons_succ]; rfl)); (focus (rw [hops.out]; rfl)); (focus (go_simp; constructor <;> with_reducible rfl)); (first | ((with_reducible refine (dsk_sector HWH.out kn hkn).mono ?_); rintro e w' ⟨gb2, c3, rfl, k1, k2, -, hc0, rfl⟩; refine ⟨_, rfl, TB.refl _ _, ?_⟩; intro a' ha'; simp only [Act.put, List.setIfInBounds_toArray, List.set_cons_zero, List.set_cons_succ] at ha'; subst ha')))
          obtain ⟨rfl, hcc⟩ : gb2 = gb ∧ c = c3 + 512 * kn := by
            have := HQ0.out
            rw [this] at hc0
            simp only [Option.some.injEq, Value.slice.injEq, Addr.mk.injEq] at hc0
            exact ⟨hc0.1.1.symm, hc0.2.2⟩
          have hbl := crashB_len (f := keptLen keep torn (kb : Int)) HOK.out.len HOK.out.M j
          obtain ⟨w6, hrun, hown, htb⟩ := run_copy_sec HC4.out.bytes (512 * kn) 512 c3 A2 c2 (x2.take kb) (HR24.out.take kb) (by rw [List.length_take]; omega) (by rw [List.length_take, HXJ.out]; simp only; omega)
          have hlk : (x2.take kb).length = kb := by rw [List.length_take, HXJ.out]; omega
          rw [hlk] at hrun
          (refine sch_copy (o := ?_) (at_of hops.out ?_) ?_ (.tmp 44) (.tmp 48) 34 34 ?_ _ _ ?_ ?_ hrun htb ?_; rotate_left 1; (focus (simp only [List.getElem?_toArray, List.getElem?_cons_zero, List.getElem?_cons_succ]; rfl)); (focus (rw [hops.out]; rfl)); (focus rfl); (focus rfl); (focus rfl))
          refine sch_done ?_
          obtain ⟨hd6, ht6⟩ := HC4.out.copied _ hown htb
          have HD6 := Lib.hid (show DskC w6 F g n gb2 c gm (some ⟨ob, oo, none⟩) oc L V { D with b := crashB (keptLen keep torn (kb : Int)) D.M D.b (j + 1) } (D.M.map (·.1)) from by
            rw [crashB, HPJ.out]
            simp only [Int.toNat_natCast]
            rw [HKL.out]; exact hd6)
          have HT6 := Lib.hid (HT.out.then ((TS.of HD).then ht6))
          clear hops hrun hown htb hd6 ht6 hbl hc0 hcc
          go_wp2
          go_roundw
          case rel => exact ⟨j + 1, by omega, by go_num, HD6.out, HT6.out⟩
          case measure => simp [intOf]; omega
        · by_cases hke : keep.getD j false = true
          · have hjk : j < keep.length := by
              by_cases h : j < keep.length
              · exact h
              · rw [List.getD_eq_getElem?_getD, List.getElem?_eq_none (by omega)] at hke; cases hke
            have HKL := Lib.hid (show keptLen keep torn bytes j = 512 from by unfold keptLen; rw [if_neg hto, if_pos hke])
            obtain ⟨kb0, ko, rfl, hkb0, hkcell⟩ := hkr1.form (by simp; omega)
            have hkj := hkcell j (by simpa using hjk)
            rw [show (keep.map Value.bool)[j]'(by simpa using hjk) = .bool true from by
              rw [List.getElem_map]
              rw [List.getD_eq_getElem?_getD, List.getElem?_eq_getElem hjk] at hke
              simpa using hke] at hkj
            have hjk2 : (j : Int) < (keep.length : Int) := by omega
            have HWH := Lib.hid (HC.out.whole ⟨crashB_len HOK.out.len HOK.out.M j, HOK.out.n1, HOK.out.n2, HOK.out.M, HOK.out.f⟩)
            have HQ0 := Lib.hid (row4 HC.out.row).1
            have hcs : ((j : Int) == torn) = false ∨ (((j : Int) == torn) = true ∧ ¬ 0 ≤ bytes) ∨ (((j : Int) == torn) = true ∧ 0 ≤ bytes ∧ ¬ bytes ≤ 512) := by
              by_cases h1 : (j : Int) = torn
              · by_cases h2 : 0 ≤ bytes
                · exact .inr (.inr ⟨by simpa using h1, h2, fun h3 => hto ⟨h1, h2, h3⟩⟩)
                · exact .inr (.inl ⟨by simpa using h1, h2⟩)
              · exact .inl (by simpa using h1)
            clear hto hke hkcell
            rcases hcs with h1 | ⟨h1, h2⟩ | ⟨h1, h2, h3⟩
            all_goals
              go_wp2_with fail
              refine (dsk_sector HWH.out kn hkn).mono ?_
              rintro e w' ⟨gb2, c3, rfl, k1, k2, -, hc0, rfl⟩
              obtain ⟨rfl, hcc⟩ : gb2 = gb ∧ c = c3 + 512 * kn := by
                have := HQ0.out
                rw [this] at hc0
                simp only [Option.some.injEq, Value.slice.injEq, Addr.mk.injEq] at hc0
                exact ⟨hc0.1.1.symm, hc0.2.2⟩
              have hbl := crashB_len (f := keptLen keep torn bytes) HOK.out.len HOK.out.M j
              obtain ⟨w6, hrun, hown, htb⟩ := run_copy_sec HC.out.bytes (512 * kn) 512 c3 A2 c2 x2 HR2.out (by rw [HXJ.out]; exact Nat.le_refl _) (by rw [HXJ.out]; simp only; omega)
              rw [HXJ.out] at hrun
              obtain ⟨hd6, ht6⟩ := HC.out.copied _ hown htb
              have HD6 := Lib.hid (show DskC w6 F g n gb2 c gm (some ⟨ob, oo, none⟩) oc L V { D with b := crashB (keptLen keep torn bytes) D.M D.b (j + 1) } (D.M.map (·.1)) from by
                rw [crashB, HPJ.out]
                simp only [Int.toNat_natCast]
                rw [HKL.out, List.take_of_length_le (by rw [HXJ.out]; exact Nat.le_refl _)]; exact hd6)
              have HT6 := Lib.hid (HT.out.then ht6)
              clear hown htb hd6 ht6 hbl hc0 hcc
              go_wp2_with (refine wpList_copy_by rfl _ _ _ _ rfl _ _ rfl rfl hrun ?_)
              go_roundw
              case rel => exact ⟨j + 1, by omega, by go_num, HD6.out, HT6.out⟩
              case measure => simp [intOf]; omega
          · have HKL := Lib.hid (show keptLen keep torn bytes j = 0 from by unfold keptLen; rw [if_neg hto, if_neg hke])
            have HD6 := Lib.hid (show DskC wr F g n gb c gm (some ⟨ob, oo, none⟩) oc L V { D with b := crashB (keptLen keep torn bytes) D.M D.b (j + 1) } (D.M.map (·.1)) from by
              rw [crashB, HPJ.out]
              simp only [Int.toNat_natCast]
              rw [HKL.out, List.take_zero, show splice (crashB (keptLen keep torn bytes) D.M D.b j) (512 * kn) [] = crashB (keptLen keep torn bytes) D.M D.b j from by simp [splice]]; exact HC.out)
            have HT6 := Lib.hid HT.out
            have hcs : ((j : Int) == torn) = false ∨ (((j : Int) == torn) = true ∧ ¬ 0 ≤ bytes) ∨ (((j : Int) == torn) = true ∧ 0 ≤ bytes ∧ ¬ bytes ≤ 512) := by
              by_cases h1 : (j : Int) = torn
              · by_cases h2 : 0 ≤ bytes
                · exact .inr (.inr ⟨by simpa using h1, h2, fun h3 => hto ⟨h1, h2, h3⟩⟩)
                · exact .inr (.inl ⟨by simpa using h1, h2⟩)
              · exact .inl (by simpa using h1)
            by_cases hjk : j < keep.length
            · obtain ⟨kb0, ko, rfl, hkb0, hkcell⟩ := hkr1.form (by simp; omega)
              have hkj := hkcell j (by simpa using hjk)
              rw [show (keep.map Value.bool)[j]'(by simpa using hjk) = .bool false from by
                rw [List.getElem_map]
                rw [List.getD_eq_getElem?_getD, List.getElem?_eq_getElem hjk] at hke
                simpa using hke] at hkj
              have hjk2 : (j : Int) < (keep.length : Int) := by omega
              clear hto hke hkcell
              rcases hcs with h1 | ⟨h1, h2⟩ | ⟨h1, h2, h3⟩
              all_goals
                go_wp2
                go_roundw
                case rel => exact ⟨j + 1, by omega, by go_num, HD6.out, HT6.out⟩
                case measure => simp [intOf]; omega
            · have hjk2 : ¬ (j : Int) < (keep.length : Int) := by omega
              clear hto hke hjk
              rcases hcs with h1 | ⟨h1, h2⟩ | ⟨h1, h2, h3⟩
              all_goals
                go_wp2
                go_roundw
                case rel => exact ⟨j + 1, by omega, by go_num, HD6.out, HT6.out⟩
                case measure => simp [intOf]; omega
    · obtain rfl : j = D.M.length := by omega
      have hDC := HC.out
      obtain ⟨q0, q1, q2, q3⟩ := row4 hDC.row
      obtain ⟨w2, hcl, hm2, htb2⟩ := map_clear Try.underlying61 hDC.map 0
      obtain ⟨hrow2, hD2, hT2⟩ := hDC.cleared ⟨crashB_len HOK.out.len HOK.out.M _, HOK.out.n1, HOK.out.n2, HOK.out.M, HOK.out.f⟩ hm2 htb2
      obtain ⟨s0, s1, s2, s3⟩ := row4 hrow2
      have sf2 := frozen_row _ hrow2 2
      obtain ⟨f3, ⟨pp, t3⟩, hD3, hT3⟩ := hD2.unfuse
      have HD3 := Lib.hid hD3
      have HT3 := Lib.hid (HT0.out.then (HT.out.then (hT2.then hT3)))
      clear hDC hrow2 hD2 hT2 hD3 hT3 hm2 htb2
      go_wp2_with (refine wpList_clear_run rfl _ _ rfl _ rfl hcl ?_)
      go_ret
      exact ⟨rfl, HD3.out, HT3.out⟩
end Go.Proofs.Ytbedpjpddcjpkaa
