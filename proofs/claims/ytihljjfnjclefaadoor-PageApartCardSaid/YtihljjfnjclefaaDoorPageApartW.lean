/- The walk through PageApart. -/
import Derived.Test.YtihljjfnjclefaaDoorPgL
import Derived.Test.YtihljjfnjclefaaDoorPgO
import Derived.Test.YtihljjfnjclefaaDoorPgQ
set_option linter.unusedVariables false
set_option linter.unusedSimpArgs false
namespace Go.Proofs.YtihljjfnjclefaaDoor
open Go.ChangeShapes Go.WideShapes Go.ChangeAt Go.RowKit
attribute [local go_sem] nb_nonneg nb_lt8 nb_lt64
set_option maxRecDepth 100000

theorem pg_pickM (z : Int) (m : Nat) (h : 1 ≤ m) : ∃ n : Nat, pick z (m : Int) = (n : Int) ∧ n < m := by
  have := pick_range z (m : Int) (by omega)
  exact ⟨(pick z (m : Int)).toNat, by omega, by omega⟩
theorem Dsk.nodup {w : World} {F : List Nat} {g n : Nat} {D : DiskSt} (h : Dsk w F g n D) : (D.M.map (·.1)).Nodup := by
  obtain ⟨gb, c, gm, O, oc, L, V, hc⟩ := h.parts
  exact hc.nodupM
set_option maxHeartbeats 8000000 in
theorem pageApart_walk (K : Int) (n : BitVec 32) (A : Option Addr) (c : Nat) (x : List Byte) (K' : Int) (n' : BitVec 32) (B : Option Addr) (d : Nat) (y : List Byte) (za zb : Int) (w : World) (hc : x.length ≤ c) (hm : c ≤ maxLen) (hr : Rd w A x) (hK : -9223372036854775808 ≤ K ∧ K ≤ 9223372036854775807) (hc2 : y.length ≤ d) (hm2 : d ≤ maxLen) (hr2 : Rd w B y) (hK2 : -9223372036854775808 ≤ K' ∧ K' ≤ 9223372036854775807) (hza : -9223372036854775808 ≤ za ∧ za ≤ 9223372036854775807) (hzb : -9223372036854775808 ≤ zb ∧ zb ≤ 9223372036854775807) :
    Calls Tryd.prog 7 #[.agg #[.int .i64 K, .int .u32 (nb n), .slice A x.length c], .agg #[.int .i64 K', .int .u32 (nb n'), .slice B y.length d], .int .i64 za, .int .i64 zb] w fun e w' => e = .returned (.bool true) ∧ Below w.heap.size w w' := by
  obtain ⟨hf, hb1, hb2, -⟩ := pbox22 w (.int .i64 K) (.int .u32 (nb n)) (.slice A x.length c) (.int .i64 K') (.int .u32 (nb n')) (.slice B y.length d)
  have HF0 := Lib.hid hf
  have HP0 := Lib.hid hb1
  have HQ0 := Lib.hid hb2
  have HRX := Lib.hid hr
  have HRY := Lib.hid hr2
  have HCX := Lib.hid (And.intro hc hm)
  have HCY := Lib.hid (And.intro hc2 hm2)
  clear hf hb1 hb2 hr hr2 hc hm hc2 hm2 hK hK2 hza hzb
  go_enter Tryd.func7, Tryd.ntmps7
  go_wp2_with fail
  obtain ⟨W1, hW1⟩ : ∃ W1 : World, W1 = (w.alloc (.cells #[.int .i64 K, .int .u32 (nb n), .slice A x.length c] 25)).alloc (.cells #[.int .i64 K', .int .u32 (nb n'), .slice B y.length d] 25) := ⟨_, rfl⟩
  simp only [← hW1] at HF0 HP0 HQ0 ⊢
  clear hW1
  refine (pg_lives _).mono ?_
  rintro e w1 ⟨rfl, hb⟩
  have HF1 := Lib.hid (HF0.out.trans hb)
  have HP1 := Lib.hid ((hb.block _ (Array.getElem?_eq_some_iff.1 HP0.out).1).trans HP0.out)
  have HQ1 := Lib.hid ((hb.block _ (Array.getElem?_eq_some_iff.1 HQ0.out).1).trans HQ0.out)
  clear hb HF0 HP0 HQ0
  obtain ⟨q0, q1, q2⟩ := prow3 HP1.out
  obtain ⟨r0, r1, r2⟩ := prow3 HQ1.out
  by_cases h1 : 5000 < x.length
  · have hz : 5000 < (x.length : Int) := by omega
    go_wp2
    go_ret
    exact ⟨rfl, HF1.out⟩
  · by_cases h2 : 5000 < y.length
    · have hz : ¬ 5000 < (x.length : Int) := by omega
      have hz2 : 5000 < (y.length : Int) := by omega
      go_wp2
      go_ret
      exact ⟨rfl, HF1.out⟩
    · have hz : ¬ 5000 < (x.length : Int) := by omega
      have hz2 : ¬ 5000 < (y.length : Int) := by omega
      have HLX := Lib.hid (show x.length ≤ 5000 from by omega)
      have HLY := Lib.hid (show y.length ≤ 5000 from by omega)
      clear h1 h2
      have hcx := pg_Bytes K n x A c w1 (by have := HLX.out; omega) (HF1.out.rd HRX.out)
      by_cases hok : pgOk K x = true
      · obtain ⟨xas, has⟩ : ∃ xas, xas = pgBytes (BitVec.ofInt 8 K) n x := ⟨_, rfl⟩
        have HAL := Lib.hid (show xas.length = 4096 from by rw [has]; exact pgBytes_len _ _ (pgOk_iff.1 hok).2.2)
        rw [show pgB K n x = (xas, 0) from by unfold pgB; rw [if_pos hok, has]] at hcx
        have HC := Lib.hid hcx
        have HAS := Lib.hid has
        have HOK := Lib.hid hok
        clear hcx has hok
        go_wp2_with fail
        clear q0 q1 q2 r0 r1 r2
        refine HC.out.mono ?_
        rintro e w3 ⟨A9, c9, rfl, ho, hb⟩
        simp only at ho
        rw [HAL.out] at ho ⊢
        have hi := Own.info ho
        have HC9 := Lib.hid (show 4096 ≤ c9 ∧ c9 ≤ maxLen from ⟨by rw [← HAL.out]; exact hi.1, hi.2.1⟩)
        have HR9 := Lib.hid hi.2.2.1
        have HF3 := Lib.hid (HF1.out.trans hb)
        have HP3 := Lib.hid ((hb.block _ (Array.getElem?_eq_some_iff.1 HP1.out).1).trans HP1.out)
        have HQ3 := Lib.hid ((hb.block _ (Array.getElem?_eq_some_iff.1 HQ1.out).1).trans HQ1.out)
        have hcy := pg_Bytes K' n' y B d w3 (by have := HLY.out; omega) (HF3.out.rd HRY.out)
        obtain ⟨q0, q1, q2⟩ := prow3 HQ3.out
        by_cases hoy : pgOk K' y = true
        · obtain ⟨ys, hys⟩ : ∃ ys, ys = pgBytes (BitVec.ofInt 8 K') n' y := ⟨_, rfl⟩
          have HYL := Lib.hid (show ys.length = 4096 from by rw [hys]; exact pgBytes_len _ _ (pgOk_iff.1 hoy).2.2)
          have HSE := Lib.hid (show ((sb xas).toList == (sb ys).toList) = pgSame K n x K' n' y from by
            rw [← pgBytes_eq HOK.out hoy, ← HAS.out, ← hys, sb_beq]
            rw [Bool.eq_iff_iff]; simp)
          rw [show pgB K' n' y = (ys, 0) from by unfold pgB; rw [if_pos hoy, hys]] at hcy
          have HC3 := Lib.hid hcy
          clear hcy ho hb hi HC HF1 HP1 HQ1 hys hoy
          go_wp2_with fail
          clear q0 q1 q2
          refine HC3.out.mono ?_
          rintro e w4 ⟨A11, c11, rfl, ho, hb⟩
          simp only at ho
          rw [HYL.out] at ho ⊢
          have hi := Own.info ho
          have HC11 := Lib.hid (show 4096 ≤ c11 ∧ c11 ≤ maxLen from ⟨by rw [← HYL.out]; exact hi.1, hi.2.1⟩)
          have HR11 := Lib.hid hi.2.2.1
          have HR94 := Lib.hid (hb.rd HR9.out)
          have HB9 := Lib.hid (show ∀ ad, A9 = some ad → ad.block < w4.heap.size from fun ad ha => by
            obtain ⟨b, o, e2, h2, -⟩ := Rd.form HR94.out (by have := HAL.out; omega)
            rw [ha] at e2; cases e2; exact h2)
          have HB11 := Lib.hid (show ∀ ad, A11 = some ad → ad.block < w4.heap.size from fun ad ha => by
            obtain ⟨b, o, e2, h2, -⟩ := Rd.form HR11.out (by have := HYL.out; omega)
            rw [ha] at e2; cases e2; exact h2)
          have HF4 := Lib.hid (HF3.out.trans hb)
          have HP4 := Lib.hid ((hb.block _ (Array.getElem?_eq_some_iff.1 HP3.out).1).trans HP3.out)
          have HQ4 := Lib.hid ((hb.block _ (Array.getElem?_eq_some_iff.1 HQ3.out).1).trans HQ3.out)
          clear ho hb hi HC3 HF3 HP3 HQ3 HR9
          go_wp2_with fail
          refine (dsk_New_ok 43 (by omega) (by omega) _).mono ?_
          rintro e w5 ⟨F, g, rfl, hd, hb, hFn⟩
          have HD5 := Lib.hid (show DW w4 w5 F g 43 ⟨List.replicate (512 * 43) 0#8, [], none⟩ from ⟨hd, hb, hFn⟩)
          clear hd hb hFn
          have HCS := Lib.hid (fun W (h : FB w5 W) => pg_Same K K' n n' x y A B c d W (by have := HLX.out; omega) (by have := HLY.out; omega) HCX.out.1 HCY.out.1 HCX.out.2 HCY.out.2 ((HF4.out.trans (HD5.out.fb.trans h)).rd HRX.out) ((HF4.out.trans (HD5.out.fb.trans h)).rd HRY.out))
          have hse := HSE.out
          generalize pgSame K n x K' n' y = S at *
          have hss : (S != S) = false := by simp
          go_upto_region 10 with fail
          obtain ⟨W0, hW0⟩ : ∃ W0 : World, W0 = w5 := ⟨_, rfl⟩
          rw [← hW0]
          refine region_sch (E := FB) ((0, true) :: (1, true) :: (2, true) :: (3, true) :: (4, true) :: (5, true) :: (6, true) :: (7, true) :: (8, true) :: (9, true) :: (10, false) :: (11, true) :: (12, true) :: []) (by kernel_rfl) FB.refl fb_trans (fun _ _ d _ _ h => by cases d <;> exact h) (by kernel_rfl) ?_
          intro ops hops0
          have hops := Lib.hid hops0
          clear hops0
          have HF : FB W0 W0.drew := (FB.refl _).drew
          generalize W0.drew = wF at *
          have HFq := Lib.hid (show FB w5 wF from by rw [← hW0]; exact HF)
          clear hW0 HF
          have K1 := Lib.hid (prow3 (((HD5.out.fb.trans HFq.out).block _ (Array.getElem?_eq_some_iff.1 HP4.out).1).trans HP4.out))
          have K2 := Lib.hid (prow3 (((HD5.out.fb.trans HFq.out).block _ (Array.getElem?_eq_some_iff.1 HQ4.out).1).trans HQ4.out))
          have S1 := Lib.hid (fun W (h : FB wF W) => run_string c9 ((HD5.out.fb.trans (HFq.out.trans h)).rd HR94.out))
          have S2 := Lib.hid (fun W (h : FB wF W) => run_string c11 ((HD5.out.fb.trans (HFq.out.trans h)).rd HR11.out))
          have hl1 := HAL.out
          have hl2 := HYL.out
          have HF := FB.refl wF
          repeat (refine sch_take (o := ?_) (v := ?_) (a' := ?_) (at_of hops.out ?_) ?_ (fun W hW => ?_) ?_ ?_; rotate_left 3; (focus (simp only [List.getElem?_toArray, List.getElem?_cons_zero, List.getElem?_cons_succ]; rfl)); (focus (rw [hops.out]; rfl)); (focus (have u1 := FB.cell hW K1.out.1; have u2 := FB.cell hW K1.out.2.1; have u3 := FB.cell hW K1.out.2.2; have u4 := FB.cell hW K2.out.1; have u5 := FB.cell hW K2.out.2.1; have u6 := FB.cell hW K2.out.2.2; have u7 := S1.out W hW; have u8 := S2.out W hW; rw [hl1] at u7; rw [hl2] at u8; go_simp; with_reducible rfl)); (focus (simp only [Act.put, List.setIfInBounds_toArray, List.set_cons_zero, List.set_cons_succ]; rfl)))
          (refine sch_call (o := ?_) (f := ?_) (args := ?_) (at_of hops.out ?_) ?_ ?_ ?_; rotate_left 3; (focus (simp only [List.getElem?_toArray, List.getElem?_cons_zero, List.getElem?_cons_succ]; rfl)); (focus (rw [hops.out]; rfl)); (focus (go_simp; constructor <;> with_reducible rfl)); (first | ((with_reducible refine (HCS.out _ (HFq.out.trans HF)).mono ?_); rintro e w6 ⟨rfl, hb⟩; refine ⟨_, rfl, hb, ?_⟩; intro a' ha'; simp only [Act.put, List.setIfInBounds_toArray, List.set_cons_zero, List.set_cons_succ] at ha'; subst ha'; replace HF := HF.call hb; clear hb)))
          repeat (refine sch_take (o := ?_) (v := ?_) (a' := ?_) (at_of hops.out ?_) ?_ (fun W hW => ?_) ?_ ?_; rotate_left 3; (focus (simp only [List.getElem?_toArray, List.getElem?_cons_zero, List.getElem?_cons_succ]; rfl)); (focus (rw [hops.out]; rfl)); (focus (go_simp; with_reducible rfl)); (focus (simp only [Act.put, List.setIfInBounds_toArray, List.set_cons_zero, List.set_cons_succ]; rfl)))
          refine sch_done ?_
          have HD6 := Lib.hid (HD5.out.fbn (HFq.out.trans HF))
          clear hops HF K1 K2 S1 S2 HCS HD5 HFq HP4 HQ4 hse HSE hl1 hl2
          obtain ⟨i, hi, hil⟩ := pg_pickM za 5 (by omega)
          obtain ⟨k, hk, hkl⟩ := pg_pickM zb 5 (by omega)
          have hpi := kit_Pick za 5 w6 (by omega) (by omega)
          have hpj := kit_Pick zb 5 w6 (by omega) (by omega)
          rw [show pick za 5 = (i : Int) from hi] at hpi
          rw [show pick zb 5 = (k : Int) from hk] at hpj
          have HPI := Lib.hid hpi
          have HPJ := Lib.hid hpj
          have HIL := Lib.hid (And.intro hil hkl)
          clear hpi hpj hi hk hil hkl
          go_wp2_with fail
          clear hss
          refine HPI.out.mono ?_
          rintro e w7 ⟨rfl, rfl⟩
          go_wp2_with fail
          refine HPJ.out.mono ?_
          rintro e w7 ⟨rfl, rfl⟩
          clear HPI HPJ
          obtain ⟨M1, hs1, HV1⟩ := sdSave_ok (D := ⟨List.replicate (512 * 43) 0#8, [], none⟩) (n := 43) (k := i) (xs := xas) rfl (by have := HIL.out.1; omega) HAL.out
          have hsv := pg_Save HD6.out.dsk (i : Int) A9 c9 xas (by rw [HAL.out]; omega) (by rw [HAL.out]; exact HC9.out.1) (HD6.out.fb.rd HR94.out) (fun ad ha hm => by have h1 := HB9.out ad ha; have h2 := HD6.out.own _ hm; omega)
          rw [hs1, HAL.out] at hsv
          have HC6 := Lib.hid hsv
          have HV1 := Lib.hid HV1
          clear hsv hs1
          go_wp2_with fail
          refine HC6.out.mono ?_
          rintro e w7 ⟨rfl, hres⟩
          obtain ⟨F7, hdw, -, -⟩ := HD6.out.res hres
          have HD7 := Lib.hid hdw
          clear hres hdw HC6 HD6
          obtain ⟨M2, hs2, HV2⟩ := sdSave_ok (D := ⟨List.replicate (512 * 43) 0#8, M1, none⟩) (n := 43) (k := k) (xs := ys) rfl (by have := HIL.out.2; omega) HYL.out
          have hsv := pg_Save HD7.out.dsk (k : Int) A11 c11 ys (by rw [HYL.out]; omega) (by rw [HYL.out]; exact HC11.out.1) (HD7.out.fb.rd HR11.out) (fun ad ha hm => by have h1 := HB11.out ad ha; have h2 := HD7.out.own _ hm; omega)
          rw [hs2, HYL.out] at hsv
          have HC7 := Lib.hid hsv
          have HV2 := Lib.hid HV2
          clear hsv hs2
          go_wp2_with fail
          refine HC7.out.mono ?_
          rintro e w8 ⟨rfl, hres⟩
          obtain ⟨F8, hdw, -, -⟩ := HD7.out.res hres
          have HD8 := Lib.hid hdw
          clear hres hdw HC7 HD7
          have hfl := dsk_Flush HD8.out.dsk
          rw [sdFlush_ok rfl] at hfl
          have HC8 := Lib.hid hfl
          have HVF := Lib.hid (show ∀ s, s < 43 → secV ⟨flushB M2 (List.replicate (512 * 43) 0#8), [], none⟩ s = secV ⟨List.replicate (512 * 43) 0#8, M2, none⟩ s from fun s hs => secV_flush HD8.out.dsk.ok HD8.out.dsk.nodup none hs)
          clear hfl
          go_wp2_with fail
          refine HC8.out.mono ?_
          rintro e w9 ⟨rfl, hd, ht⟩
          have HD9 := Lib.hid (HD8.out.ts hd ht)
          clear hd ht HC8 HD8
          have HLK := Lib.hid (show catV (secV ⟨flushB M2 (List.replicate (512 * 43) 0#8), [], none⟩) 8 (k * 8) = ys from by
            rw [← layV_same (secV ⟨List.replicate (512 * 43) 0#8, M1, none⟩) (k := k) HYL.out]
            exact catV_congr 8 _ _ (fun j hj => by rw [HVF.out _ (by have := HIL.out.2; omega), HV2.out])
            )
          have HLI := Lib.hid (show catV (secV ⟨flushB M2 (List.replicate (512 * 43) 0#8), [], none⟩) 8 (i * 8) = if i = k then ys else xas from by
            by_cases hik : i = k
            · rw [if_pos hik, hik]; exact HLK.out
            · rw [if_neg hik]
              refine (catV_congr (V' := layV (secV ⟨List.replicate (512 * 43) 0#8, M1, none⟩) k ys 8) 8 _ (i * 8) (fun j hj => by rw [HVF.out _ (by have := HIL.out.1; omega), HV2.out])).trans ?_
              rw [layV_other _ _ hik]
              refine (catV_congr (V' := layV (secV ⟨List.replicate (512 * 43) 0#8, [], none⟩) i xas 8) 8 _ (i * 8) (fun j hj => HV1.out _)).trans ?_
              exact layV_same _ HAL.out)
          have HIM := Lib.hid (show ((flushB M2 (List.replicate (512 * 43) 0#8)).drop (4096 * k)).take 4096 = ys from by rw [← HLK.out, catV_image])
          generalize flushB M2 (List.replicate (512 * 43) 0#8) = bz at *
          clear HV1 HV2 HVF
          have hld := pg_Load HD9.out.dsk (i : Int)
          rw [sdLoad_ok rfl (by have := HIL.out.1; omega), HLI.out] at hld
          obtain ⟨x1, hx1⟩ : ∃ x1, x1 = if i = k then ys else xas := ⟨_, rfl⟩
          rw [← hx1] at hld
          have hx1l := Lib.hid (show x1.length = 4096 from by rw [hx1]; split; exact HYL.out; exact HAL.out)
          have HC9' := Lib.hid hld
          have HX1E := Lib.hid hx1
          clear hld hx1
          go_wp2_with fail
          refine HC9'.out.mono ?_
          rintro e w10 ⟨Al1, cl1, rfl, hr, hn, hd, ht, hcl, hml⟩
          have HD10 := Lib.hid (HD9.out.ts hd ht)
          have HX10 := Lib.hid (show Rd w10 Al1 x1 from hr)
          have HN10 := Lib.hid (show ∀ ad, Al1 = some ad → ad.block ∉ F8 from fun ad ha hm => by have := HD9.out.dsk.lt _ hm; have := hn ad ha; omega)
          clear hr hn hd ht hcl hml HC9' HD9
          have hld := pg_Load HD10.out.dsk (k : Int)
          rw [sdLoad_ok rfl (by have := HIL.out.2; omega), HLK.out] at hld
          have HC10 := Lib.hid hld
          clear hld
          go_wp2_with fail
          refine HC10.out.mono ?_
          rintro e w11 ⟨Al2, cl2, rfl, hr, hn, hd, ht, hcl, hml⟩
          have HD11 := Lib.hid (HD10.out.ts hd ht)
          have HX11 := Lib.hid (show Rd w11 Al2 ys from hr)
          have HX10' := Lib.hid (ht.rd HX10.out HN10.out)
          clear hr hn hd ht hcl hml HC10 HD10 HX10
          go_wp2_with fail
          refine (dsk_Image HD11.out.dsk).mono ?_
          rintro e wz ⟨Ai, ci, rfl, hri, hci, hmi, -, hb⟩
          have HDZ := Lib.hid (HD11.out.dsk.fb hb)
          have HFZ := Lib.hid ((HF4.out.trans HD11.out.fb).trans hb)
          have HX1 := Lib.hid (hb.rd HX10'.out)
          have HX2 := Lib.hid (hb.rd HX11.out)
          have HXA := Lib.hid ((HD11.out.fb.trans hb).rd HR94.out)
          have HXB := Lib.hid ((HD11.out.fb.trans hb).rd HR11.out)
          have HBZ := Lib.hid (show bz.length = 512 * 43 from HDZ.out.ok.len)
          obtain ⟨kk, hkk⟩ : ∃ kk, kk = 4096 * k := ⟨_, rfl⟩
          obtain ⟨Aj, hcut, hcr, -⟩ := cut_at Ai ci bz kk 4096 (by rw [HBZ.out]; have := HIL.out.2; omega) (by rw [HBZ.out]; exact hci)
          rw [HBZ.out] at hcut
          have HCUT := Lib.hid (show ∀ W, (Instr.slice 23 (.slice Ai (512 * 43) ci) (some (.int .i64 (kk : Int))) (some (.int .i64 ((kk : Int) + 4096))) none).run Tryd.prog W = .ok (.slice Aj 4096 (ci - kk)) W from hcut)
          have HXI := Lib.hid (show Rd wz Aj ys from by have := hcr wz hri; rw [hkk, HIM.out] at this; exact this)
          have hw1 : IntKind.i64.wrap ((k : Int) * 4096) = (kk : Int) := by rw [IntKind.wrap_i64]; have := HIL.out.2; omega
          have hw2 : IntKind.i64.wrap ((k : Int) + 1) = (k : Int) + 1 := by rw [IntKind.wrap_i64]; have := HIL.out.2; omega
          have hw3 : IntKind.i64.wrap (((k : Int) + 1) * 4096) = (kk : Int) + 4096 := by rw [IntKind.wrap_i64]; have := HIL.out.2; omega
          clear hri hci hmi hb hcut hcr HD11 HX10' HX11 hkk
          by_cases hik : i = k
          · have hike : ((i : Int) == (k : Int)) = true := by rw [beq_iff_eq]; omega
            have hxe := HX1E.out
            rw [if_pos hik] at hxe
            subst hxe
            clear hik
            go_upto_region 21 with fail
            clear hike
            obtain ⟨W0, hW0⟩ : ∃ W0 : World, W0 = wz := ⟨_, rfl⟩
            rw [← hW0]
            refine region_sch (E := FB) ((0, true) :: (1, true) :: (2, true) :: (3, true) :: (4, true) :: (5, true) :: (6, true) :: (7, true) :: (8, true) :: (9, true) :: (10, true) :: (11, true) :: (12, true) :: (13, true) :: (14, true) :: (15, true) :: (16, true) :: (17, true) :: (18, true) :: (19, true) :: (20, true) :: (21, true) :: (22, true) :: (23, true) :: (24, true) :: (25, true) :: (26, true) :: (27, true) :: (28, true) :: (29, true) :: (30, true) :: (31, true) :: (32, true) :: (33, true) :: (34, true) :: (35, false) :: (36, true) :: (37, true) :: (38, true) :: []) (by kernel_rfl) FB.refl fb_trans (fun _ _ d _ _ h => by cases d <;> exact h) (by kernel_rfl) ?_
            intro ops hops0
            have hops := Lib.hid hops0
            clear hops0
            have HF : FB W0 W0.drew := (FB.refl _).drew
            generalize W0.drew = wF at *
            have HFq := Lib.hid (show FB wz wF from by rw [← hW0]; exact HF)
            clear hW0 HF
            have S1 := Lib.hid (fun W (h : FB wF W) => run_string cl1 ((HFq.out.trans h).rd HX1.out))
            have S2 := Lib.hid (fun W (h : FB wF W) => run_string cl2 ((HFq.out.trans h).rd HX2.out))
            have S3 := Lib.hid (fun W (h : FB wF W) => run_string c9 ((HFq.out.trans h).rd HXA.out))
            have S4 := Lib.hid (fun W (h : FB wF W) => run_string c11 ((HFq.out.trans h).rd HXB.out))
            have S5 := Lib.hid (fun W (h : FB wF W) => run_string (ci - kk) ((HFq.out.trans h).rd HXI.out))
            have HF := FB.refl wF
            repeat (refine sch_take (o := ?_) (v := ?_) (a' := ?_) (at_of hops.out ?_) ?_ (fun W hW => ?_) ?_ ?_; rotate_left 3; (focus (simp only [List.getElem?_toArray, List.getElem?_cons_zero, List.getElem?_cons_succ]; rfl)); (focus (rw [hops.out]; rfl)); (focus (have u1 := S1.out W hW; have u2 := S2.out W hW; have u3 := S3.out W hW; have u4 := S4.out W hW; have u5 := S5.out W hW; rw [HAL.out] at u3; rw [HYL.out] at u4 u5; have u6 := HCUT.out W; go_simp; with_reducible rfl)); (focus (simp only [Act.put, List.setIfInBounds_toArray, List.set_cons_zero, List.set_cons_succ]; rfl)))
            (refine sch_call (o := ?_) (f := ?_) (args := ?_) (at_of hops.out ?_) ?_ ?_ ?_; rotate_left 3; (focus (simp only [List.getElem?_toArray, List.getElem?_cons_zero, List.getElem?_cons_succ]; rfl)); (focus (rw [hops.out]; rfl)); (focus (go_simp; constructor <;> with_reducible rfl)); (first | ((with_reducible refine (pg_Pages (HDZ.out.fb (HFq.out.trans HF))).mono ?_); rintro e w' ⟨rfl, rfl⟩; refine ⟨_, rfl, FB.refl _, ?_⟩; intro a' ha'; simp only [Act.put, List.setIfInBounds_toArray, List.set_cons_zero, List.set_cons_succ] at ha'; subst ha')))
            repeat (refine sch_take (o := ?_) (v := ?_) (a' := ?_) (at_of hops.out ?_) ?_ (fun W hW => ?_) ?_ ?_; rotate_left 3; (focus (simp only [List.getElem?_toArray, List.getElem?_cons_zero, List.getElem?_cons_succ]; rfl)); (focus (rw [hops.out]; rfl)); (focus (go_simp; with_reducible rfl)); (focus (simp only [Act.put, List.setIfInBounds_toArray, List.set_cons_zero, List.set_cons_succ]; rfl)))
            refine sch_done ?_
            have HE := Lib.hid (HFZ.out.trans (HFq.out.trans HF))
            clear hops HF S1 S2 S3 S4 S5
            go_wp2
            go_ret
            exact ⟨rfl, HE.out⟩
          · have hike : ((i : Int) == (k : Int)) = false := beq_eq_false_iff_ne.2 (by omega)
            have hxe := HX1E.out
            rw [if_neg hik] at hxe
            subst hxe
            clear hik
            go_upto_region 21 with fail
            clear hike
            obtain ⟨W0, hW0⟩ : ∃ W0 : World, W0 = wz := ⟨_, rfl⟩
            rw [← hW0]
            refine region_sch (E := FB) ((0, true) :: (1, true) :: (2, true) :: (3, true) :: (4, true) :: (5, true) :: (6, true) :: (7, true) :: (8, true) :: (9, true) :: (10, true) :: (11, true) :: (12, true) :: (13, true) :: (14, true) :: (15, true) :: (16, true) :: (17, true) :: (18, true) :: (19, true) :: (20, true) :: (21, true) :: (22, true) :: (23, true) :: (24, true) :: (25, true) :: (26, true) :: (27, true) :: (28, true) :: (29, true) :: (30, true) :: (31, true) :: (32, true) :: (33, true) :: (34, true) :: (35, false) :: (36, true) :: (37, true) :: (38, true) :: []) (by kernel_rfl) FB.refl fb_trans (fun _ _ d _ _ h => by cases d <;> exact h) (by kernel_rfl) ?_
            intro ops hops0
            have hops := Lib.hid hops0
            clear hops0
            have HF : FB W0 W0.drew := (FB.refl _).drew
            generalize W0.drew = wF at *
            have HFq := Lib.hid (show FB wz wF from by rw [← hW0]; exact HF)
            clear hW0 HF
            have S1 := Lib.hid (fun W (h : FB wF W) => run_string cl1 ((HFq.out.trans h).rd HX1.out))
            have S2 := Lib.hid (fun W (h : FB wF W) => run_string cl2 ((HFq.out.trans h).rd HX2.out))
            have S3 := Lib.hid (fun W (h : FB wF W) => run_string c9 ((HFq.out.trans h).rd HXA.out))
            have S4 := Lib.hid (fun W (h : FB wF W) => run_string c11 ((HFq.out.trans h).rd HXB.out))
            have S5 := Lib.hid (fun W (h : FB wF W) => run_string (ci - kk) ((HFq.out.trans h).rd HXI.out))
            have HF := FB.refl wF
            repeat (refine sch_take (o := ?_) (v := ?_) (a' := ?_) (at_of hops.out ?_) ?_ (fun W hW => ?_) ?_ ?_; rotate_left 3; (focus (simp only [List.getElem?_toArray, List.getElem?_cons_zero, List.getElem?_cons_succ]; rfl)); (focus (rw [hops.out]; rfl)); (focus (have u1 := S1.out W hW; have u2 := S2.out W hW; have u3 := S3.out W hW; have u4 := S4.out W hW; have u5 := S5.out W hW; rw [HAL.out] at u3; rw [HYL.out] at u4 u5; have u6 := HCUT.out W; go_simp; with_reducible rfl)); (focus (simp only [Act.put, List.setIfInBounds_toArray, List.set_cons_zero, List.set_cons_succ]; rfl)))
            (refine sch_call (o := ?_) (f := ?_) (args := ?_) (at_of hops.out ?_) ?_ ?_ ?_; rotate_left 3; (focus (simp only [List.getElem?_toArray, List.getElem?_cons_zero, List.getElem?_cons_succ]; rfl)); (focus (rw [hops.out]; rfl)); (focus (go_simp; constructor <;> with_reducible rfl)); (first | ((with_reducible refine (pg_Pages (HDZ.out.fb (HFq.out.trans HF))).mono ?_); rintro e w' ⟨rfl, rfl⟩; refine ⟨_, rfl, FB.refl _, ?_⟩; intro a' ha'; simp only [Act.put, List.setIfInBounds_toArray, List.set_cons_zero, List.set_cons_succ] at ha'; subst ha')))
            repeat (refine sch_take (o := ?_) (v := ?_) (a' := ?_) (at_of hops.out ?_) ?_ (fun W hW => ?_) ?_ ?_; rotate_left 3; (focus (simp only [List.getElem?_toArray, List.getElem?_cons_zero, List.getElem?_cons_succ]; rfl)); (focus (rw [hops.out]; rfl)); (focus (go_simp; with_reducible rfl)); (focus (simp only [Act.put, List.setIfInBounds_toArray, List.set_cons_zero, List.set_cons_succ]; rfl)))
            refine sch_done ?_
            have HE := Lib.hid (HFZ.out.trans (HFq.out.trans HF))
            clear hops HF S1 S2 S3 S4 S5
            go_wp2
            go_ret
            exact ⟨rfl, HE.out⟩
        · rw [show pgB K' n' y = ([], 2) from by unfold pgB; rw [if_neg hoy]] at hcy
          have HC3 := Lib.hid hcy
          clear hcy ho hb hi HC HF1 HP1 HQ1 hoy
          go_wp2_with fail
          clear q0 q1 q2
          refine HC3.out.mono ?_
          rintro e w4 ⟨A11, c11, rfl, -, hb⟩
          have HE := Lib.hid (HF3.out.trans hb)
          clear hb HC3
          go_wp2
          go_ret
          exact ⟨rfl, HE.out⟩
      · rw [show pgB K n x = ([], 2) from by unfold pgB; rw [if_neg hok]] at hcx
        have HC := Lib.hid hcx
        clear hcx hok
        go_wp2_with fail
        clear q0 q1 q2 r0 r1 r2
        refine HC.out.mono ?_
        rintro e w3 ⟨A9, c9, rfl, -, hb⟩
        have HF3 := Lib.hid (HF1.out.trans hb)
        have HQ3 := Lib.hid ((hb.block _ (Array.getElem?_eq_some_iff.1 HQ1.out).1).trans HQ1.out)
        have hcy := pg_Bytes K' n' y B d w3 (by have := HLY.out; omega) (HF3.out.rd HRY.out)
        have hyy := show (pgB K' n' y).2 = 0 ∨ (pgB K' n' y).2 = 2 from by unfold pgB; split <;> simp
        generalize pgB K' n' y = t at *
        obtain ⟨ys, ey⟩ := t
        have HC3 := Lib.hid hcy
        have HYY := Lib.hid hyy
        clear hcy hyy hb HC HF1 HP1 HQ1
        obtain ⟨q0, q1, q2⟩ := prow3 HQ3.out
        go_wp2_with fail
        clear q0 q1 q2
        refine HC3.out.mono ?_
        rintro e w4 ⟨A11, c11, rfl, -, hb⟩
        have HE := Lib.hid (HF3.out.trans hb)
        clear hb HC3
        rcases HYY.out with rfl | rfl
        all_goals
          go_wp2
          go_ret
          exact ⟨rfl, HE.out⟩
end Go.Proofs.YtihljjfnjclefaaDoor
