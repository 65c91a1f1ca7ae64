/- The walk of SectorCrash. -/
import Derived.Test.YtbedpjpddcjpkaaSectorFailsW
import Derived.Test.YtbedpjpddcjpkaaSectorNilW
import Derived.Test.YtbedpjpddcjpkaaCrsM
import Derived.Test.YtbedpjpddcjpkaaKCr
import Derived.Deep.DeepCutAuto
set_option linter.unusedVariables false
set_option linter.unusedSimpArgs false
namespace Go.Proofs.Ytbedpjpddcjpkaa
open Go.ChangeShapes Go.WideShapes Go.ChangeAt Go.RowKit Go.MapKept
attribute [local go_sem] nb_nonneg nb_lt8

theorem fill_set' {α : Type} (v z : α) (j n : Nat) (h : j < n) : (List.replicate j v ++ List.replicate (n - j) z).set j v = List.replicate (j + 1) v ++ List.replicate (n - (j + 1)) z := by
  rw [List.set_append_right _ _ (by simp), List.length_replicate, Nat.sub_self, show n - j = (n - (j + 1)) + 1 by omega, List.replicate_succ, List.set_cons_zero, List.replicate_succ' (n := j), List.append_assoc]; rfl
theorem Dsk.nodupM {w : World} {F : List Nat} {g n : Nat} {D : DiskSt} (h : Dsk w F g n D) : (D.M.map (·.1)).Nodup := by
  obtain ⟨gb, c, gm, O, oc, L, V, hp⟩ := h.parts
  exact hp.nodupM
theorem sdFlush_ok {D : DiskSt} (hf : D.fuse = none) : sdFlush D = (0, ⟨flushB D.M D.b, [], none⟩) := by
  unfold sdFlush
  rw [hf]
  simp [ffail]
theorem row_0 (w : World) : Calls Try.prog 12 #[.int .u8 0] w fun e w' => ∃ A, e = .returned (.slice A 512 512) ∧ (Rd w' A (List.replicate 512 0#8) ∧ ∀ ad, A = some ad → w.heap.size ≤ ad.block ∧ ad.block < w'.heap.size) ∧ FB w w' :=
  (law4_row 0#8 w).mono fun e w' ⟨A, h1, h2, h3⟩ => ⟨A, h1, ⟨(Own.info h2).2.2.1, (Own.info h2).2.2.2.2⟩, h3⟩
theorem CrS.fresh {w0 w : World} {F : List Nat} {g n : Nat} {D : DiskSt} {gf gl : Nat} {fl la : List (List Byte)} (h : CrS w0 w F g n D gf gl fl la) {x : Nat} (hx : w.heap.size ≤ x) : x ∉ gf :: gl :: F := fun hm => by
  have h1 := h.rf.lt
  have h2 := h.rl.lt
  simp only [List.mem_cons] at hm
  rcases hm with rfl | rfl | hm
  · omega
  · omega
  · have := h.dw.dsk.lt _ hm; omega
set_option maxRecDepth 100000 in
set_option maxHeartbeats 4000000 in
theorem sectorCrash_w (s0 : Int) (A : Option Addr) (c : Nat) (l : List ActV) (KA : Option Addr) (kc : Nat) (ks : List Bool) (T Y : Int) (w : World) (hc : l.length ≤ c) (hm : c ≤ maxLen) (hr : RdActs w A l) (hok : ∀ a ∈ l, a.ok) (hkr : RdV w KA (ks.map .bool)) :
    Calls Try.prog 3 #[.int .i64 s0, .slice A l.length c, .agg #[.slice KA ks.length kc, .int .i64 T, .int .i64 Y]] w fun e w' => e = .returned (.bool true) ∧ FB w w' := by
  have HB0 := Lib.hid ((FB.refl w).alloc (.cells #[.slice KA ks.length kc, .int .i64 T, .int .i64 Y] 25))
  have HBX := Lib.hid (fun W (h : FB (w.alloc (.cells #[.slice KA ks.length kc, .int .i64 T, .int .i64 Y] 25)) W) => row3 (box3 h))
  have HR := Lib.hid hr
  have HKR := Lib.hid hkr
  have HCM := Lib.hid (And.intro hc hm)
  have HOKL := Lib.hid hok
  clear hr hc hm hok hkr
  obtain ⟨z0, hz0⟩ : ∃ z : List Byte, z = List.replicate 512 0#8 := ⟨_, rfl⟩
  have HZ0 := Lib.hid hz0
  clear hz0
  obtain ⟨W0, hW0⟩ : ∃ W0 : World, W0 = w.alloc (.cells #[.slice KA ks.length kc, .int .i64 T, .int .i64 Y] 25) := ⟨_, rfl⟩
  rw [← hW0] at HB0 HBX
  have HW0 := Lib.hid hW0
  clear hW0
  go_enter Try.func3, Try.ntmps3
  go_wp2_with fail
  rw [← HW0.out]
  refine (sd_lives _).mono ?_
  rintro e w1 ⟨rfl, hb⟩
  have HB1 := Lib.hid hb
  have HF1 := Lib.hid (HB0.out.trans hb)
  obtain ⟨q0, q1, q2⟩ := HBX.out _ HB1.out
  clear hb
  by_cases hbig : 40 < s0
  · go_wp2
    go_ret
    exact ⟨rfl, HF1.out⟩
  · go_wp2_with fail
    refine (acts_small A l c _ HCM.out.1 HCM.out.2 (HR.out.fb HF1.out)).mono ?_
    rintro e w2 ⟨rfl, hb⟩
    have HB2 := Lib.hid (HB1.out.trans hb)
    have HF2 := Lib.hid (HF1.out.trans hb)
    clear hb q0 q1 q2
    cases hS : smallB l with
    | false =>
      clear hS
      go_wp2
      go_ret
      exact ⟨rfl, HF2.out⟩
    | true =>
      have hl80 : l.length ≤ 80 := by
        unfold smallB at hS
        simp only [Bool.and_eq_true, decide_eq_true_eq] at hS
        exact hS.1
      clear hS
      obtain ⟨q0, q1, q2⟩ := HBX.out _ HB2.out
      go_wp2_with fail
      refine (kit_LightCrash KA ks.length kc T Y 100 _).mono ?_
      rintro e w3 ⟨rfl, hb⟩
      have HB3 := Lib.hid (HB2.out.trans hb)
      have HF3 := Lib.hid (HF2.out.trans hb)
      clear hb q0 q1 q2
      by_cases hk : (ks.length : Int) ≤ 100
      · rw [show decide ((ks.length : Int) ≤ 100) = true from decide_eq_true hk]
        have HKL := Lib.hid (show ks.length ≤ 1000000000 by omega)
        clear hk
        by_cases hs1 : s0 < 1
        · go_wp2_with fail
          refine (dsk_New_bad s0 (.inl hs1) _).mono ?_
          rintro e w4 ⟨rfl, rfl⟩
          have hs1d : decide (s0 < 1) = true := decide_eq_true hs1
          go_wp2
          go_ret
          exact ⟨rfl, HF3.out⟩
        · obtain ⟨n, rfl⟩ : ∃ n : Nat, s0 = (n : Int) := ⟨s0.toNat, by omega⟩
          have hn1 : 1 ≤ n := by omega
          have hn2 : n ≤ 40 := by omega
          clear hbig hs1
          go_wp2_with fail
          refine (dsk_New_ok n hn1 (by omega) _).mono ?_
          rintro e w4 ⟨F4, g, rfl, hd, hb, hF⟩
          have HB4 := Lib.hid (HB3.out.trans hb)
          have HD4 := Lib.hid (show DW W0 w4 F4 g n ⟨List.replicate (512 * n) 0#8, [], none⟩ from ⟨hd, HB3.out.trans hb, fun x hx => Nat.le_trans HB3.out.le (hF x hx)⟩)
          clear hd hb hF
          obtain ⟨C, hmk, hC⟩ := mk_rows n (by omega)
          have HC := Lib.hid hC
          clear hC
          go_upto_region 8 with fail
          go_cut [9, 10] (fun s9 s10 wx => ∃ gf gl : Nat, s9 = .slice (some ⟨gf, 0, none⟩) n n ∧ s10 = .slice (some ⟨gl, 0, none⟩) n n ∧ Hid (gf ≠ gl ∧ w4.heap.size ≤ gf ∧ w4.heap.size ≤ gl ∧ FB w4 wx ∧ RowsAt wx (gf :: gl :: F4) gf (List.replicate n []) ∧ RowsAt wx (gf :: gl :: F4) gl (List.replicate n [])))
          case first =>
            have HX0 := Lib.hid (show FB w4 ((w4.alloc (.cells C 34)).alloc (.cells C 34)).drew from (((FB.refl w4).alloc _).alloc _).drew)
            have HX1 := Lib.hid (show ∀ X, w4.heap.size ∈ X → RowsAt ((w4.alloc (.cells C 34)).alloc (.cells C 34)).drew X w4.heap.size (List.replicate n []) from fun X hX => (RowsAt.mk HC.out hX).fb (((FB.refl _).alloc _).drew))
            have HX2 := Lib.hid (show ∀ X, w4.heap.size + 1 ∈ X → RowsAt ((w4.alloc (.cells C 34)).alloc (.cells C 34)).drew X (w4.heap.size + 1) (List.replicate n []) from fun X hX => by
              have h := RowsAt.mk (w := w4.alloc (.cells C 34)) (X := X) HC.out (by simpa using hX)
              have e : (w4.alloc (.cells C 34)).heap.size = w4.heap.size + 1 := by simp
              rw [e] at h
              exact h.fb (FB.refl _).drew)
            go_region
            all_goals (go_wp2_with fail; go_meet)
            · exact ⟨w4.heap.size, w4.heap.size + 1, rfl, rfl, ⟨by omega, Nat.le_refl _, by omega, HX0.out, HX1.out _ (by simp), HX2.out _ (by simp)⟩⟩
            · exact ⟨w4.heap.size + 1, w4.heap.size, rfl, rfl, ⟨by omega, by omega, Nat.le_refl _, HX0.out, HX2.out _ (by simp), HX1.out _ (by simp)⟩⟩
          case rest =>
            obtain ⟨gf, gl, rfl, rfl, HG⟩ := hcut
            have HS5 := Lib.hid (show CrS W0 wc F4 g n ⟨List.replicate (512 * n) 0#8, [], none⟩ gf gl (List.replicate 0 z0 ++ List.replicate (n - 0) []) (List.replicate 0 z0 ++ List.replicate (n - 0) []) from by
              obtain ⟨k1, k2, k3, k4, k5, k6⟩ := HG.out
              have hsz := HD4.out.fb.le
              exact ⟨HD4.out.fbn k4, rfl, by simpa using k5, by simpa using k6, fun hm => by have := HD4.out.dsk.lt _ hm; omega, fun hm => by have := HD4.out.dsk.lt _ hm; omega, k1, by omega, by omega⟩)
            clear HG HC hmk
            go_wp2_with fail
            go_loopw [11] (fun c11 wr => ∃ j : Nat, j ≤ n ∧ c11 = .int .i64 j ∧ Hid (CrS W0 wr F4 g n ⟨List.replicate (512 * n) 0#8, [], none⟩ gf gl (List.replicate j z0 ++ List.replicate (n - j) []) (List.replicate j z0 ++ List.replicate (n - j) []))) (fun c11 _ => n - (intOf c11).toNat)
            case atStart => exact ⟨0, by omega, rfl, HS5.out⟩
            case round =>
              obtain ⟨j, hj, rfl, HS⟩ := hrel
              by_cases hlt : j < n
              · have hjx : (j : Int) < (n : Int) := by omega
                go_wp2_with fail
                refine (row_0 _).mono ?_
                rintro e w6 ⟨A6, rfl, hr6, hb⟩
                have HR6 := Lib.hid hr6
                have HS6 := Lib.hid (HS.out.fb hb)
                clear hr6 hb
                go_wp2_with fail
                refine (row_0 _).mono ?_
                rintro e w7 ⟨A7, rfl, hr7, hb⟩
                have HS7 := Lib.hid (HS6.out.fb hb)
                have HR6 := Lib.hid (show Rd w7 A6 z0 ∧ ∀ ad, A6 = some ad → ad.block ∉ gf :: gl :: F4 ∧ ad.block < w7.heap.size from by
                  obtain ⟨k1, k2⟩ := HR6.out
                  refine ⟨hb.rd (by rw [HZ0.out]; exact k1), fun ad ha => ?_⟩
                  have k3 := k2 ad ha
                  exact ⟨HS.out.fresh k3.1, Nat.lt_of_lt_of_le k3.2 hb.le⟩)
                have HR7 := Lib.hid (show Rd w7 A7 z0 ∧ ∀ ad, A7 = some ad → ad.block ∉ gf :: gl :: F4 ∧ ad.block < w7.heap.size from by
                  obtain ⟨k1, k2⟩ := hr7
                  exact ⟨by rw [HZ0.out]; exact k1, fun ad ha => ⟨HS6.out.fresh (k2 ad ha).1, (k2 ad ha).2⟩⟩)
                clear hr7 hb
                have HZL := Lib.hid (show 512 = z0.length from by rw [HZ0.out, List.length_replicate])
                obtain ⟨A8, c8, q1, -, -, -, f1, -⟩ := HS7.out.rf.get j (by simp; omega)
                have hs8 := HS7.out.setf j (by simp; omega) HR6.out.1 512 HZL.out (Nat.le_refl _) (by simp [maxLen]) HR6.out.2
                rw [fill_set' _ _ _ _ hlt] at hs8
                obtain ⟨A9, c9, q2, -, -, -, f2, -⟩ := hs8.rl.get j (by simp; omega)
                have hs9 := hs8.setl j (by simp; omega) ((TS.tb (F := [gf]) (TB.set w7 j _) (by simp)).rd HR7.out.1 (fun ad ha hm => (HR7.out.2 ad ha).1 (by simp at hm; simp [hm]))) 512 HZL.out (Nat.le_refl _) (by simp [maxLen]) (fun ad ha => ⟨(HR7.out.2 ad ha).1, by simpa using (HR7.out.2 ad ha).2⟩)
                rw [fill_set' _ _ _ _ hlt] at hs9
                have HS9 := Lib.hid hs9
                clear hs8 hs9
                go_wp2
                go_roundw
                case rel => exact ⟨j + 1, by omega, by go_num, HS9.out⟩
                case measure => simp [intOf]; omega
              · obtain rfl : j = n := by omega
                have hjx : ¬ (j : Int) < (j : Int) := by omega
                have HS6 := Lib.hid (show CrS W0 wr F4 g j ⟨List.replicate (512 * j) 0#8, [], none⟩ gf gl (List.replicate j z0) (List.replicate j z0) from by
                  have := HS.out
                  simpa using this)
                have HL6 := Lib.hid (show Lists ⟨List.replicate (512 * j) 0#8, [], none⟩ j (List.replicate j z0) (List.replicate j z0) from by rw [HZ0.out]; exact Lists.start j)
                clear HS HS5
                go_wp2_with fail
                go_loopw [12] (fun c12 wr => ∃ (i : Nat) (F : List Nat) (D : DiskSt) (fl la : List (List Byte)), i ≤ l.length ∧ c12 = .int .i64 i ∧ Hid (CrS W0 wr F g j D gf gl fl la) ∧ Hid (Lists D j fl la)) (fun c12 _ => l.length - (intOf c12).toNat)
                case atStart => exact ⟨0, _, _, _, _, by omega, rfl, HS6.out, HL6.out⟩
                case round =>
                  clear HS6 HL6 HD4
                  obtain ⟨i, F, D, fl, la, hi, rfl, HS, HL⟩ := hrel
                  by_cases hli : i < l.length
                  · have hlx : (i : Int) < (l.length : Int) := by omega
                    obtain ⟨b, o, rfl, ha0⟩ := HR.out i hli
                    have HA := Lib.hid (ha0.fb HB0.out)
                    generalize l[i] = a at *
                    obtain ⟨K, At, V, B, N, KA2, kc2, ks2, T2, Y2⟩ := a
                    clear ha0
                    obtain ⟨c0, c1, -, -, -, -, -, -, -⟩ := HA.out.fb HS.out.dw.fb
                    simp only at c0 c1
                    go_wp2_with fail
                    refine (kit_Pick At (j : Int) _ (by omega) (by omega)).mono ?_
                    rintro e w6 ⟨rfl, rfl⟩
                    obtain ⟨hp1, hp2⟩ := pick_range At (j : Int) (by omega)
                    obtain ⟨k1, hk⟩ : ∃ k1 : Nat, pick At (j : Int) = (k1 : Int) := ⟨(pick At (j : Int)).toNat, by omega⟩
                    rw [hk] at hp1 hp2 ⊢
                    have hk1 : k1 < j := by omega
                    clear hk hp1
                    go_wp2_with fail
                    refine (kit_Pick K 6 _ (by omega) (by omega)).mono ?_
                    rintro e w6 ⟨rfl, rfl⟩
                    clear c0 c1
                    generalize pick K 6 = p
                    by_cases hpw : p = 1 ∨ p = 2
                    · rcases hpw with rfl | rfl
                      all_goals
                        obtain ⟨c0, c1, c2, c3, c4, c5, c6, c7, -⟩ := HA.out.fb HS.out.dw.fb
                        simp only at c0 c1 c2 c3 c4 c5 c6 c7
                        go_wp2_with fail
                        refine (act_bytes ⟨K, At, V, B, N, KA2, kc2, ks2, T2, Y2⟩ _).mono ?_
                        rintro e w6 ⟨A6, rfl, ho, hb⟩
                        have HO6 := Lib.hid (Own.info ho)
                        have HS6 := Lib.hid (HS.out.fb hb)
                        clear ho hb c0 c1 c2 c3 c4 c5 c6 c7
                        go_wp2_with fail
                        refine (write_ok HS6.out.dw (k1 : Int) (by omega) (by omega) HS6.out.fuse A6 512 (actRow V B) (actRow_len V B) HO6.out.2.2.1 (fun ad ha hm => HS.out.fresh (HO6.out.2.2.2.2 ad ha).1 (by simp [hm]))).mono ?_
                        rintro e w7 ⟨rfl, F7, hd7, ht7, hF7⟩
                        have HS7a := Lib.hid (HS6.out.disk hd7 ht7 hF7 rfl)
                        obtain ⟨c0, c1, c2, c3, c4, c5, c6, c7, -⟩ := HA.out.fb HS7a.out.dw.fb
                        simp only at c0 c1 c2 c3 c4 c5 c6 c7
                        clear hd7 ht7 hF7
                        go_wp2_with fail
                        refine (act_bytes ⟨K, At, V, B, N, KA2, kc2, ks2, T2, Y2⟩ _).mono ?_
                        rintro e w7a ⟨A7, rfl, ho, hb⟩
                        have HO7 := Lib.hid (Own.info ho)
                        have HS7b := Lib.hid (HS7a.out.fb hb)
                        clear ho hb c0 c1 c2 c3 c4 c5 c6 c7
                        have HNLa := Lib.hid HL.out.nl
                        obtain ⟨A9, c9, q2, -, -, -, f2, -⟩ := HS7b.out.rl.get k1 (by have := HNLa.out; omega)
                        have HS7 := Lib.hid (HS7b.out.setl k1 (by have := HNLa.out; omega) HO7.out.2.2.1 512 (actRow_len V B).symm (Nat.le_refl _) (by simp [maxLen]) (fun ad ha => ⟨HS7a.out.fresh (HO7.out.2.2.2.2 ad ha).1, (HO7.out.2.2.2.2 ad ha).2⟩))
                        have HL7 := Lib.hid (HL.out.write k1 hk1 (actRow V B))
                        obtain ⟨D7, hD7⟩ : ∃ D7 : DiskSt, D7 = ⟨D.b, cput D.M (k1 : Int) (actRow V B), none⟩ := ⟨_, rfl⟩
                        obtain ⟨la7, hla7⟩ : ∃ la7, la7 = la.set k1 (actRow V B) := ⟨_, rfl⟩
                        obtain ⟨fl7, hfl7⟩ : ∃ fl7, fl7 = fl := ⟨_, rfl⟩
                        rw [← hD7, ← hla7, ← hfl7] at HS7 HL7
                        clear hD7 hla7 hfl7
                        have HX7 := Lib.hid (HL7.out.read k1 hk1)
                        have HNL := Lib.hid HL7.out.nl
                        go_wp2_with fail
                        refine (read_ok HS7.out.dw (k1 : Int) (by omega) (by omega) HS7.out.fuse (la7[k1]'(by have := HNL.out; omega)) HX7.out).mono ?_
                        rintro e w8 ⟨A8, c8, rfl, hr8, hA8, hd8, ht8, -, -⟩
                        have HS8 := Lib.hid (HS7.out.disk hd8 ht8 (fun x hx => .inl hx) HS7.out.fuse)
                        have HR8 := Lib.hid hr8
                        clear hr8 hd8 ht8 hA8
                        go_wp2_with fail
                        obtain ⟨W8, hW8⟩ : ∃ W8 : World, W8 = w8 := ⟨_, rfl⟩
                        subst hW8
                        refine region_sch (E := FB) ((0, true) :: (1, true) :: (2, true) :: (3, true) :: (4, true) :: (5, true) :: (6, true) :: (7, true) :: (8, true) :: (9, true) :: (10, true) :: (11, true) :: []) (by kernel_rfl) FB.refl fb_trans (fun _ _ d _ _ h => by cases d <;> exact h) (by kernel_rfl) ?_
                        intro ops hops0
                        have hops := Lib.hid hops0
                        clear hops0
                        have HF : FB W8 W8.drew := (FB.refl _).drew
                        generalize W8.drew = wF8 at *
                        have HS9 := Lib.hid (HS8.out.fb HF)
                        have HR9 := Lib.hid (FB.rd HF HR8.out)
                        obtain ⟨A9, c9, q9, -, -, r9, -, -⟩ := HS9.out.rl.get k1 (by have := HNL.out; omega)
                        have HQ9 := Lib.hid q9
                        have HT9 := Lib.hid r9
                        clear q9 r9
                        have hs1 := fun W (hw : FB wF8 W) => run_string c8 (FB.rd hw HR9.out)
                        have hs2 := fun W (hw : FB wF8 W) => run_string c9 (FB.rd hw HT9.out)
                        generalize la7[k1]'(by have := HNL.out; omega) = xs at *
                        repeat (refine sch_take (o := ?_) (v := ?_) (a' := ?_) (at_of hops.out ?_) ?_ (fun W hW => ?_) ?_ ?_; rotate_left 3; (focus (simp only [List.getElem?_toArray, List.getElem?_cons_zero, List.getElem?_cons_succ]; rfl)); (focus (rw [hops.out]; rfl)); (focus (have u1 := hs1 W hW; have u2 := hs2 W hW; have u3 := FB.cell hW HQ9.out; go_simp; with_reducible rfl)); (focus (simp only [Act.put, List.setIfInBounds_toArray, List.set_cons_zero, List.set_cons_succ]; rfl)))
                        refine sch_done ?_
                        clear hs1 hs2 hops HF
                        go_wp2
                        go_roundw
                        case rel => exact ⟨i + 1, F7, D7, fl7, la7, by omega, by go_num, HS9.out, HL7.out⟩
                        case measure => simp [intOf]; omega
                    · have hp1b : (p == 1) = false := by simp; omega
                      have hp2b : (p == 2) = false := by simp; omega
                      by_cases hp3 : p = 3
                      · subst hp3
                        clear hpw hp1b hp2b
                        go_wp2_with fail
                        refine (dsk_Flush HS.out.dw.dsk).mono ?_
                        rintro e w6 ⟨rfl, hd, ht⟩
                        rw [sdFlush_ok HS.out.fuse] at hd ⊢
                        have HS6 := Lib.hid (HS.out.disk (HS.out.dw.ts hd ht) ht (fun x hx => .inl hx) rfl)
                        have HL7 := Lib.hid (HL.out.flush HS.out.dw.dsk.ok HS.out.dw.dsk.nodupM)
                        obtain ⟨w7, hcp, hs7⟩ := HS6.out.copy (by rw [HL.out.nf, HL.out.nl]) j HL.out.nl.symm j j
                        have HS7 := Lib.hid hs7
                        obtain ⟨D7, hD7⟩ : ∃ D7 : DiskSt, D7 = ⟨flushB D.M D.b, [], none⟩ := ⟨_, rfl⟩
                        obtain ⟨la7, hla7⟩ : ∃ la7, la7 = la := ⟨_, rfl⟩
                        obtain ⟨fl7, hfl7⟩ : ∃ fl7, fl7 = la := ⟨_, rfl⟩
                        obtain ⟨F7, hF7⟩ : ∃ F7, F7 = F := ⟨_, rfl⟩
                        have hs7' : CrS W0 w7 F7 g j D7 gf gl fl7 la7 := by rw [hD7, hla7, hfl7, hF7]; exact HS7.out
                        have hl7' : Lists D7 j fl7 la7 := by rw [hD7, hla7, hfl7]; exact HL7.out
                        clear HS7 HL7
                        have HS7 := Lib.hid hs7'
                        have HL7 := Lib.hid hl7'
                        clear hs7 hs7' hl7' hd ht hD7 hla7 hfl7 hF7
                        go_wp2_with (refine wpList_copy_by rfl _ _ _ _ rfl _ _ rfl rfl hcp ?_)
                        clear hcp
                        have HX7 := Lib.hid (HL7.out.read k1 hk1)
                        have HNL := Lib.hid HL7.out.nl
                        go_wp2_with fail
                        refine (read_ok HS7.out.dw (k1 : Int) (by omega) (by omega) HS7.out.fuse (la7[k1]'(by have := HNL.out; omega)) HX7.out).mono ?_
                        rintro e w8 ⟨A8, c8, rfl, hr8, hA8, hd8, ht8, -, -⟩
                        have HS8 := Lib.hid (HS7.out.disk hd8 ht8 (fun x hx => .inl hx) HS7.out.fuse)
                        have HR8 := Lib.hid hr8
                        clear hr8 hd8 ht8 hA8
                        go_wp2_with fail
                        obtain ⟨W8, hW8⟩ : ∃ W8 : World, W8 = w8 := ⟨_, rfl⟩
                        subst hW8
                        refine region_sch (E := FB) ((0, true) :: (1, true) :: (2, true) :: (3, true) :: (4, true) :: (5, true) :: (6, true) :: (7, true) :: (8, true) :: (9, true) :: (10, true) :: (11, true) :: []) (by kernel_rfl) FB.refl fb_trans (fun _ _ d _ _ h => by cases d <;> exact h) (by kernel_rfl) ?_
                        intro ops hops0
                        have hops := Lib.hid hops0
                        clear hops0
                        have HF : FB W8 W8.drew := (FB.refl _).drew
                        generalize W8.drew = wF8 at *
                        have HS9 := Lib.hid (HS8.out.fb HF)
                        have HR9 := Lib.hid (FB.rd HF HR8.out)
                        obtain ⟨A9, c9, q9, -, -, r9, -, -⟩ := HS9.out.rl.get k1 (by have := HNL.out; omega)
                        have HQ9 := Lib.hid q9
                        have HT9 := Lib.hid r9
                        clear q9 r9
                        have hs1 := fun W (hw : FB wF8 W) => run_string c8 (FB.rd hw HR9.out)
                        have hs2 := fun W (hw : FB wF8 W) => run_string c9 (FB.rd hw HT9.out)
                        generalize la7[k1]'(by have := HNL.out; omega) = xs at *
                        repeat (refine sch_take (o := ?_) (v := ?_) (a' := ?_) (at_of hops.out ?_) ?_ (fun W hW => ?_) ?_ ?_; rotate_left 3; (focus (simp only [List.getElem?_toArray, List.getElem?_cons_zero, List.getElem?_cons_succ]; rfl)); (focus (rw [hops.out]; rfl)); (focus (have u1 := hs1 W hW; have u2 := hs2 W hW; have u3 := FB.cell hW HQ9.out; go_simp; with_reducible rfl)); (focus (simp only [Act.put, List.setIfInBounds_toArray, List.set_cons_zero, List.set_cons_succ]; rfl)))
                        refine sch_done ?_
                        clear hs1 hs2 hops HF
                        go_wp2
                        go_roundw
                        case rel => exact ⟨i + 1, F7, D7, fl7, la7, by omega, by go_num, HS9.out, HL7.out⟩
                        case measure => simp [intOf]; omega
                      · have hp3b : (p == 3) = false := by simp; omega
                        have HS7 := Lib.hid HS.out
                        have HL7 := Lib.hid HL.out
                        obtain ⟨D7, hD7⟩ : ∃ D7 : DiskSt, D7 = D := ⟨_, rfl⟩
                        obtain ⟨la7, hla7⟩ : ∃ la7, la7 = la := ⟨_, rfl⟩
                        obtain ⟨fl7, hfl7⟩ : ∃ fl7, fl7 = fl := ⟨_, rfl⟩
                        obtain ⟨F7, hF7⟩ : ∃ F7, F7 = F := ⟨_, rfl⟩
                        rw [← hD7, ← hla7, ← hfl7] at HS7 HL7
                        rw [← hF7] at HS7
                        clear hD7 hla7 hfl7 hF7 hpw hp3
                        have HX7 := Lib.hid (HL7.out.read k1 hk1)
                        have HNL := Lib.hid HL7.out.nl
                        go_wp2_with fail
                        refine (read_ok HS7.out.dw (k1 : Int) (by omega) (by omega) HS7.out.fuse (la7[k1]'(by have := HNL.out; omega)) HX7.out).mono ?_
                        rintro e w8 ⟨A8, c8, rfl, hr8, hA8, hd8, ht8, -, -⟩
                        have HS8 := Lib.hid (HS7.out.disk hd8 ht8 (fun x hx => .inl hx) HS7.out.fuse)
                        have HR8 := Lib.hid hr8
                        clear hr8 hd8 ht8 hA8
                        go_wp2_with fail
                        obtain ⟨W8, hW8⟩ : ∃ W8 : World, W8 = w8 := ⟨_, rfl⟩
                        subst hW8
                        refine region_sch (E := FB) ((0, true) :: (1, true) :: (2, true) :: (3, true) :: (4, true) :: (5, true) :: (6, true) :: (7, true) :: (8, true) :: (9, true) :: (10, true) :: (11, true) :: []) (by kernel_rfl) FB.refl fb_trans (fun _ _ d _ _ h => by cases d <;> exact h) (by kernel_rfl) ?_
                        intro ops hops0
                        have hops := Lib.hid hops0
                        clear hops0
                        have HF : FB W8 W8.drew := (FB.refl _).drew
                        generalize W8.drew = wF8 at *
                        have HS9 := Lib.hid (HS8.out.fb HF)
                        have HR9 := Lib.hid (FB.rd HF HR8.out)
                        obtain ⟨A9, c9, q9, -, -, r9, -, -⟩ := HS9.out.rl.get k1 (by have := HNL.out; omega)
                        have HQ9 := Lib.hid q9
                        have HT9 := Lib.hid r9
                        clear q9 r9
                        have hs1 := fun W (hw : FB wF8 W) => run_string c8 (FB.rd hw HR9.out)
                        have hs2 := fun W (hw : FB wF8 W) => run_string c9 (FB.rd hw HT9.out)
                        generalize la7[k1]'(by have := HNL.out; omega) = xs at *
                        repeat (refine sch_take (o := ?_) (v := ?_) (a' := ?_) (at_of hops.out ?_) ?_ (fun W hW => ?_) ?_ ?_; rotate_left 3; (focus (simp only [List.getElem?_toArray, List.getElem?_cons_zero, List.getElem?_cons_succ]; rfl)); (focus (rw [hops.out]; rfl)); (focus (have u1 := hs1 W hW; have u2 := hs2 W hW; have u3 := FB.cell hW HQ9.out; go_simp; with_reducible rfl)); (focus (simp only [Act.put, List.setIfInBounds_toArray, List.set_cons_zero, List.set_cons_succ]; rfl)))
                        refine sch_done ?_
                        clear hs1 hs2 hops HF
                        go_wp2
                        go_roundw
                        case rel => exact ⟨i + 1, F7, D7, fl7, la7, by omega, by go_num, HS9.out, HL7.out⟩
                        case measure => simp [intOf]; omega
                  · obtain rfl : i = l.length := by omega
                    have hlx : ¬ (l.length : Int) < (l.length : Int) := by omega
                    obtain ⟨q0, q1, q2⟩ := HBX.out _ HS.out.dw.fb
                    go_wp2_with fail
                    refine (kit_Crash KA ks kc T Y _ (HS.out.dw.fb.rdV (HB0.out.rdV HKR.out)) HKL.out).mono ?_
                    rintro e w6 ⟨A6, c6, rfl, hr6, hb, hA6⟩
                    have HS6 := Lib.hid (HS.out.fb hb)
                    have HR6 := Lib.hid hr6
                    have HA6 := Lib.hid (fun ad (ha : A6 = some ad) (hm : ad.block ∈ F) => HS.out.fresh (hA6 ad ha) (by simp [hm]))
                    clear q0 q1 q2 hr6 hb hA6
                    go_wp2_with fail
                    refine (dsk_Crash HS6.out.dw.dsk A6 c6 ks T Y HR6.out HA6.out).mono ?_
                    rintro e w7 ⟨rfl, hd, ht⟩
                    have HLEN := Lib.hid (fun k hk => HL.out.len HS6.out.dw.dsk.ok k hk)
                    have HCR := Lib.hid (fun k hk => HL.out.crash HS6.out.dw.dsk.ok HS6.out.dw.dsk.nodupM ks T Y k hk)
                    have HS7 := Lib.hid (HS6.out.disk (HS6.out.dw.ts hd ht) ht (fun x hx => .inl hx) rfl)
                    clear hd ht
                    generalize crashB (keptLen ks T Y) D.M D.b D.M.length = B7 at *
                    go_wp2_with fail
                    refine (dsk_Cached HS7.out.dw.dsk).mono ?_
                    rintro e w8 ⟨A8, c8, rfl, -, hb, -⟩
                    have HS8 := Lib.hid (HS7.out.fb hb)
                    clear hb
                    simp only [List.length_nil]
                    go_wp2_with fail
                    go_loopw [16, 17] (fun c16 c17 wr => ∃ i k : Nat, k ≤ j ∧ c16 = .int .i64 i ∧ c17 = .int .i64 k ∧ Hid (CrS W0 wr F g j ⟨B7, [], none⟩ gf gl fl la) ∧ Hid (TornN D.M T k i)) (fun _ c17 _ => j - (intOf c17).toNat)
                    case atStart => exact ⟨0, 0, by omega, rfl, rfl, HS8.out, .inl rfl⟩
                    case round =>
                      clear HS6 HS7 HS8 HS HR6 HA6
                      obtain ⟨i, k, hk, rfl, rfl, HS, HTN⟩ := hrel
                      have hi1 : (i : Int) ≤ 1 := by have := HTN.out.le; omega
                      by_cases hlk : k < j
                      · have hkx : (k : Int) < (j : Int) := by omega
                        have HSL := Lib.hid (sec_len HS.out.dw.dsk.ok.len hlk)
                        go_wp2_with fail
                        refine (read_ok HS.out.dw (k : Int) (by omega) (by omega) rfl (sec B7 k) (by simp [cget])).mono ?_
                        rintro e w8 ⟨A8, c8, rfl, hr8, hA8, hd8, ht8, hc8, -⟩
                        have HS8 := Lib.hid (HS.out.disk hd8 ht8 (fun x hx => .inl hx) rfl)
                        have HR8 := Lib.hid hr8
                        have HC8 := Lib.hid hc8
                        have hcase := HCR.out k hlk
                        have HFL := Lib.hid HL.out.nf
                        have HLA := Lib.hid HL.out.nl
                        obtain ⟨A9, c9, q9, k9, -, r9, -, -⟩ := HS8.out.rf.get k (by have := HFL.out; omega)
                        obtain ⟨A10, c10, q10, k10, -, r10, -, -⟩ := HS8.out.rl.get k (by have := HLA.out; omega)
                        have hln := HLEN.out k hlk
                        generalize fl[k]'(by have := HFL.out; omega) = xf at *
                        generalize la[k]'(by have := HLA.out; omega) = xl at *
                        have HXF := Lib.hid hln.1
                        have HXLL := Lib.hid hln.2
                        simp only at HR8 HC8 ⊢
                        generalize sec B7 k = X at *
                        rw [HSL.out] at HC8 ⊢
                        rw [HXF.out] at q9 k9
                        rw [HXLL.out] at q10 k10
                        have HQ9 := Lib.hid q9
                        have HQ10 := Lib.hid q10
                        have HK := Lib.hid (And.intro k9 k10)
                        have HR9 := Lib.hid r9
                        have HR10 := Lib.hid r10
                        clear hr8 hd8 ht8 hA8 hc8 hln q9 q10 r9 r10 k9 k10
                        by_cases h1 : X = xf
                        · subst h1
                          clear hcase
                          go_wp2_with fail
                          obtain ⟨W8, hW8⟩ : ∃ W8 : World, W8 = w8 := ⟨_, rfl⟩
                          subst hW8
                          refine region_sch (E := FB) ((0, true) :: (1, true) :: (2, true) :: (3, true) :: (4, true) :: (5, true) :: (6, true) :: (7, true) :: (8, true) :: (9, true) :: (10, true) :: (11, true) :: (12, true) :: (13, true) :: (14, true) :: (15, true) :: (16, true) :: (17, true) :: []) (by kernel_rfl) FB.refl fb_trans (fun _ _ d _ _ h => by cases d <;> exact h) (by kernel_rfl) ?_
                          intro ops hops0
                          have hops := Lib.hid hops0
                          clear hops0
                          have HF : FB W8 W8.drew := (FB.refl _).drew
                          generalize W8.drew = wF8 at *
                          have HS9 := Lib.hid (HS8.out.fb HF)
                          have hs1 := fun W (hw : FB wF8 W) => run_string c8 (FB.rd hw (FB.rd HF HR8.out))
                          have hs2 := fun W (hw : FB wF8 W) => run_string c9 (FB.rd hw (FB.rd HF HR9.out))
                          rw [HSL.out] at hs1 hs2
                          have HQ9a := Lib.hid (FB.cell HF HQ9.out)
                          repeat (refine sch_take (o := ?_) (v := ?_) (a' := ?_) (at_of hops.out ?_) ?_ (fun W hW => ?_) ?_ ?_; rotate_left 3; (focus (simp only [List.getElem?_toArray, List.getElem?_cons_zero, List.getElem?_cons_succ]; rfl)); (focus (rw [hops.out]; rfl)); (focus (have u1 := hs1 W hW; have u2 := hs2 W hW; have u3 := FB.cell hW HQ9a.out; go_simp; with_reducible rfl)); (focus (simp only [Act.put, List.setIfInBounds_toArray, List.set_cons_zero, List.set_cons_succ]; rfl)))
                          repeat (refine sch_skip (o := ?_) (a' := ?_) FB.refl (at_of hops.out ?_) ?_ ?_ ?_; rotate_left 2; (focus (simp only [List.getElem?_toArray, List.getElem?_cons_zero, List.getElem?_cons_succ]; rfl)); (focus (rw [hops.out]; rfl)); (focus (simp only [Act.put, List.setIfInBounds_toArray, List.set_cons_zero, List.set_cons_succ]; rfl)))
                          repeat (refine sch_take (o := ?_) (v := ?_) (a' := ?_) (at_of hops.out ?_) ?_ (fun W hW => ?_) ?_ ?_; rotate_left 3; (focus (simp only [List.getElem?_toArray, List.getElem?_cons_zero, List.getElem?_cons_succ]; rfl)); (focus (rw [hops.out]; rfl)); (focus (go_simp; with_reducible rfl)); (focus (simp only [Act.put, List.setIfInBounds_toArray, List.set_cons_zero, List.set_cons_succ]; rfl)))
                          refine sch_done ?_
                          have HTN2 := Lib.hid HTN.out.same
                          clear hs1 hs2 hops HF
                          go_wp2
                          go_roundw
                          case rel => exact ⟨i, k + 1, by omega, rfl, by go_num, HS9.out, HTN2.out⟩
                          case measure => simp [intOf]; omega
                        · have hne1 : ((sb X).toList == (sb xf).toList) = false := by rw [sb_beq]; simpa using h1
                          by_cases h2 : X = xl
                          · subst h2
                            clear hcase h1
                            go_wp2_with fail
                            obtain ⟨W8, hW8⟩ : ∃ W8 : World, W8 = w8 := ⟨_, rfl⟩
                            subst hW8
                            refine region_sch (E := FB) ((0, true) :: (1, true) :: (2, true) :: (3, true) :: (4, true) :: (5, true) :: (6, true) :: (7, true) :: (8, true) :: (9, true) :: (10, true) :: (11, true) :: (12, true) :: (13, true) :: (14, true) :: (15, true) :: (16, true) :: (17, true) :: []) (by kernel_rfl) FB.refl fb_trans (fun _ _ d _ _ h => by cases d <;> exact h) (by kernel_rfl) ?_
                            intro ops hops0
                            have hops := Lib.hid hops0
                            clear hops0
                            have HF : FB W8 W8.drew := (FB.refl _).drew
                            generalize W8.drew = wF8 at *
                            have HS9 := Lib.hid (HS8.out.fb HF)
                            have hs1 := fun W (hw : FB wF8 W) => run_string c8 (FB.rd hw (FB.rd HF HR8.out))
                            have hs2 := fun W (hw : FB wF8 W) => run_string c9 (FB.rd hw (FB.rd HF HR9.out))
                            have hs3 := fun W (hw : FB wF8 W) => run_string c10 (FB.rd hw (FB.rd HF HR10.out))
                            rw [HSL.out] at hs1 hs3
                            rw [HXF.out] at hs2
                            have HQ9a := Lib.hid (FB.cell HF HQ9.out)
                            have HQ10a := Lib.hid (FB.cell HF HQ10.out)
                            repeat (refine sch_take (o := ?_) (v := ?_) (a' := ?_) (at_of hops.out ?_) ?_ (fun W hW => ?_) ?_ ?_; rotate_left 3; (focus (simp only [List.getElem?_toArray, List.getElem?_cons_zero, List.getElem?_cons_succ]; rfl)); (focus (rw [hops.out]; rfl)); (focus (have u1 := hs1 W hW; have u2 := hs2 W hW; have u3 := FB.cell hW HQ9a.out; have u4 := hs3 W hW; have u5 := FB.cell hW HQ10a.out; go_simp; with_reducible rfl)); (focus (simp only [Act.put, List.setIfInBounds_toArray, List.set_cons_zero, List.set_cons_succ]; rfl)))
                            refine sch_done ?_
                            have HTN2 := Lib.hid HTN.out.same
                            clear hs1 hs2 hs3 hops HF
                            go_wp2
                            go_roundw
                            case rel => exact ⟨i, k + 1, by omega, rfl, by go_num, HS9.out, HTN2.out⟩
                            case measure => simp [intOf]; omega
                          · have hne2 : ((sb X).toList == (sb xl).toList) = false := by rw [sb_beq]; simpa using h2
                            have HTC := Lib.hid (hcase.resolve_left h1 |>.resolve_left h2)
                            clear hcase h1 h2
                            go_wp2_with fail
                            obtain ⟨W8, hW8⟩ : ∃ W8 : World, W8 = w8 := ⟨_, rfl⟩
                            subst hW8
                            refine region_sch (E := FB) ((0, true) :: (1, true) :: (2, true) :: (3, true) :: (4, true) :: (5, true) :: (6, true) :: (7, true) :: (8, true) :: (9, true) :: (10, true) :: (11, true) :: (12, true) :: (13, true) :: (14, true) :: (15, true) :: (16, true) :: (17, true) :: []) (by kernel_rfl) FB.refl fb_trans (fun _ _ d _ _ h => by cases d <;> exact h) (by kernel_rfl) ?_
                            intro ops hops0
                            have hops := Lib.hid hops0
                            clear hops0
                            have HF : FB W8 W8.drew := (FB.refl _).drew
                            generalize W8.drew = wF8 at *
                            have HS9 := Lib.hid (HS8.out.fb HF)
                            have hs1 := fun W (hw : FB wF8 W) => run_string c8 (FB.rd hw (FB.rd HF HR8.out))
                            have hs2 := fun W (hw : FB wF8 W) => run_string c9 (FB.rd hw (FB.rd HF HR9.out))
                            have hs3 := fun W (hw : FB wF8 W) => run_string c10 (FB.rd hw (FB.rd HF HR10.out))
                            rw [HSL.out] at hs1
                            rw [HXF.out] at hs2
                            rw [HXLL.out] at hs3
                            have HQ9a := Lib.hid (FB.cell HF HQ9.out)
                            have HQ10a := Lib.hid (FB.cell HF HQ10.out)
                            repeat (refine sch_take (o := ?_) (v := ?_) (a' := ?_) (at_of hops.out ?_) ?_ (fun W hW => ?_) ?_ ?_; rotate_left 3; (focus (simp only [List.getElem?_toArray, List.getElem?_cons_zero, List.getElem?_cons_succ]; rfl)); (focus (rw [hops.out]; rfl)); (focus (have u1 := hs1 W hW; have u2 := hs2 W hW; have u3 := FB.cell hW HQ9a.out; have u4 := hs3 W hW; have u5 := FB.cell hW HQ10a.out; go_simp; with_reducible rfl)); (focus (simp only [Act.put, List.setIfInBounds_toArray, List.set_cons_zero, List.set_cons_succ]; rfl)))
                            refine sch_done ?_
                            have HRR := Lib.hid (And.intro (FB.rd HF HR8.out) (And.intro (FB.rd HF HR9.out) (FB.rd HF HR10.out)))
                            clear hs1 hs2 hs3 hops HF hne1 hne2 HQ9 HQ10
                            obtain ⟨q0, q1, q2⟩ := HBX.out _ HS9.out.dw.fb
                            have hct := cutAt_le Y
                            go_upto_region 40 with fail
                            go_cut [20] (fun s20 wx => s20 = .int .i64 ((cutAt Y : Nat) : Int) ∧ wx = wF8)
                            case first =>
                              go_wp2_with fail
                              all_goals (go_meet; exact ⟨congrArg (Value.int .i64) (by unfold cutAt; omega), rfl⟩)
                            obtain ⟨rfl, rfl⟩ := hcut
                            generalize cutAt Y = ct at *
                            clear q0 q1 q2
                            go_wp2_with fail
                            obtain ⟨W9, hW9⟩ : ∃ W9 : World, W9 = wc := ⟨_, rfl⟩
                            subst hW9
                            refine region_sch (E := FB) ((0, true) :: (1, true) :: (2, true) :: (3, true) :: (4, true) :: (5, true) :: (6, true) :: (7, true) :: (8, true) :: (9, true) :: (10, true) :: (11, true) :: (12, true) :: (13, true) :: (14, true) :: (15, true) :: (16, true) :: (17, true) :: (18, true) :: (19, true) :: (20, true) :: (21, true) :: (22, true) :: (23, true) :: (24, true) :: (25, true) :: []) (by kernel_rfl) FB.refl fb_trans (fun _ _ d _ _ h => by cases d <;> exact h) (by kernel_rfl) ?_
                            intro ops hops0
                            have hops := Lib.hid hops0
                            clear hops0
                            have HF : FB W9 W9.drew := (FB.refl _).drew
                            generalize W9.drew = wF9 at *
                            have HS10 := Lib.hid (HS9.out.fb HF)
                            have s1 := cut_hi A8 c8 X ct (by have := HSL.out; omega) (by have := HSL.out; have := HC8.out; omega)
                            have s2 := cut_hi A10 c10 xl ct (by have := HXLL.out; omega) (by have := HXLL.out; have := HK.out.2; omega)
                            obtain ⟨A11, s3, r3, -⟩ := cut_lo A8 c8 X ct (by have := HSL.out; omega) (by have := HSL.out; have := HC8.out; omega)
                            obtain ⟨A12, s4, r4, -⟩ := cut_lo A9 c9 xf ct (by have := HXF.out; omega) (by have := HXF.out; have := HK.out.1; omega)
                            rw [HSL.out] at s1 s3
                            rw [HXLL.out] at s2
                            rw [HXF.out] at s4
                            have hs1 := fun W (hw : FB wF9 W) => run_string (xs := X.take ct) c8 (FB.rd hw (FB.rd HF (HRR.out.1.take ct)))
                            have hs2 := fun W (hw : FB wF9 W) => run_string (xs := xl.take ct) c10 (FB.rd hw (FB.rd HF (HRR.out.2.2.take ct)))
                            have hs3 := fun W (hw : FB wF9 W) => run_string (xs := X.drop ct) (c8 - ct) (FB.rd hw (FB.rd HF (r3 _ HRR.out.1)))
                            have hs4 := fun W (hw : FB wF9 W) => run_string (xs := xf.drop ct) (c9 - ct) (FB.rd hw (FB.rd HF (r4 _ HRR.out.2.1)))
                            rw [show (X.take ct).length = ct from by rw [List.length_take, HSL.out]; omega] at hs1
                            rw [← HTC.out.2.1, show (X.take ct).length = ct from by rw [List.length_take, HSL.out]; omega] at hs2
                            rw [List.length_drop, HSL.out] at hs3
                            rw [← HTC.out.2.2, show (X.drop ct).length = 512 - ct from by rw [List.length_drop, HSL.out]] at hs4
                            generalize X.take ct = X1 at hs1 hs2
                            generalize X.drop ct = X2 at hs3 hs4
                            have HQ9b := Lib.hid (FB.cell HF HQ9a.out)
                            have HQ10b := Lib.hid (FB.cell HF HQ10a.out)
                            clear r3 r4
                            repeat (refine sch_take (o := ?_) (v := ?_) (a' := ?_) (at_of hops.out ?_) ?_ (fun W hW => ?_) ?_ ?_; rotate_left 3; (focus (simp only [List.getElem?_toArray, List.getElem?_cons_zero, List.getElem?_cons_succ]; rfl)); (focus (rw [hops.out]; rfl)); (focus (have u1 := hs1 W hW; have u2 := hs2 W hW; have u3 := FB.cell hW HQ9b.out; have u4 := hs3 W hW; have u5 := FB.cell hW HQ10b.out; have u6 := hs4 W hW; have u7 := s1 W; have u8 := s2 W; have u9 := s3 W; have u10 := s4 W; go_simp; with_reducible rfl)); (focus (simp only [Act.put, List.setIfInBounds_toArray, List.set_cons_zero, List.set_cons_succ]; rfl)))
                            refine sch_done ?_
                            have HTN2 := Lib.hid (HTN.out.more HTC.out.1)
                            clear hs1 hs2 hs3 hs4 s1 s2 s3 s4 hops HF
                            go_wp2
                            go_roundw
                            case rel => exact ⟨i + 1, k + 1, by omega, by go_num, by go_num, HS10.out, HTN2.out⟩
                            case measure => simp [intOf]; omega
                      · obtain rfl : k = j := by omega
                        have hkx : ¬ (k : Int) < (k : Int) := by omega
                        have HEND := Lib.hid (HB0.out.trans HS.out.dw.fb)
                        go_wp2
                        go_ret
                        exact ⟨by simp, HEND.out⟩
      · rw [show decide ((ks.length : Int) ≤ 100) = false from decide_eq_false hk]
        clear hk
        go_wp2
        go_ret
        exact ⟨rfl, HF3.out⟩
theorem sectorCrash_walk (s0 : Int) (A : Option Addr) (c : Nat) (l : List ActV) (KA : Option Addr) (kc : Nat) (ks : List Bool) (T Y : Int) (w : World) (h0 : -9223372036854775808 ≤ s0 ∧ s0 ≤ 9223372036854775807) (hc : l.length ≤ c) (hm : c ≤ maxLen) (hr : RdActs w A l) (hok : ∀ a ∈ l, a.ok) (k1 : ks.length ≤ kc) (k2 : kc ≤ maxLen) (k3 : RdV w KA (ks.map .bool)) (k4 : -9223372036854775808 ≤ T ∧ T ≤ 9223372036854775807) (k5 : -9223372036854775808 ≤ Y ∧ Y ≤ 9223372036854775807) :
    Calls Try.prog 3 #[.int .i64 s0, .slice A l.length c, .agg #[.slice KA ks.length kc, .int .i64 T, .int .i64 Y]] w fun e w' => e = .returned (.bool true) ∧ Below w.heap.size w w' :=
  sectorCrash_w s0 A c l KA kc ks T Y w hc hm hr hok k3
end Go.Proofs.Ytbedpjpddcjpkaa
