/- The walk of SectorScript. -/
import Derived.Test.YtbedpjpddcjpkaaSectorFailsW
import Derived.Test.YtbedpjpddcjpkaaTwo
import Derived.Test.YtbedpjpddcjpkaaKCr
set_option linter.unusedVariables false
set_option linter.unusedSimpArgs false
namespace Go.Proofs.Ytbedpjpddcjpkaa
open Go.ChangeShapes Go.WideShapes Go.ChangeAt Go.RowKit Go.MapKept
attribute [local go_sem] nb_nonneg nb_lt8

theorem conv_nil (W : World) : (convert 34 9 (.slice none 0 0)).run Try.prog W = .ok (.string (sb [])) W := run_string (w := W) (A := none) (xs := []) 0 (Rd.nil _ _)
set_option maxRecDepth 100000 in
set_option maxHeartbeats 4000000 in
theorem sectorScript_w (s0 : Int) (A : Option Addr) (c : Nat) (l : List ActV) (w : World) (hc : l.length ≤ c) (hm : c ≤ maxLen) (hr : RdActs w A l) (hok : ∀ a ∈ l, a.ok) :
    Calls Try.prog 5 #[.int .i64 s0, .slice A l.length c] w fun e w' => e = .returned (.bool true) ∧ FB w w' := by
  have HR := Lib.hid hr
  have HCM := Lib.hid (And.intro hc hm)
  have HOKL := Lib.hid hok
  clear hr hc hm hok
  go_enter Try.func5, Try.ntmps5
  go_wp2_with fail
  refine (sd_lives _).mono ?_
  rintro e w1 ⟨rfl, hb⟩
  have HF1 := Lib.hid hb
  clear hb
  by_cases hbig : 40 < s0
  · go_wp2
    go_ret
    exact ⟨rfl, HF1.out⟩
  · go_wp2_with fail
    refine (acts_small A l c _ HCM.out.1 HCM.out.2 (HR.out.fb HF1.out)).mono ?_
    rintro e w2 ⟨rfl, hb⟩
    have HF2 := Lib.hid (HF1.out.trans hb)
    clear hb
    cases hS : smallB l with
    | false =>
      clear hS
      go_wp2
      go_ret
      exact ⟨rfl, HF2.out⟩
    | true =>
      have hSB := hS
      unfold smallB at hSB
      simp only [Bool.and_eq_true, decide_eq_true_eq, List.all_eq_true] at hSB
      have hl80 : l.length ≤ 80 := hSB.1
      have HKS := Lib.hid hSB.2
      clear hS hSB
      by_cases hs1 : s0 < 1
      · go_wp2_with fail
        refine (dsk_New_bad s0 (.inl hs1) _).mono ?_
        rintro e w4 ⟨rfl, rfl⟩
        go_wp2_with fail
        refine (ref_New_bad s0 (.inl hs1) _).mono ?_
        rintro e w4 ⟨rfl, rfl⟩
        go_wp2
        go_ret
        exact ⟨rfl, HF2.out⟩
      · obtain ⟨n, rfl⟩ : ∃ n : Nat, s0 = (n : Int) := ⟨s0.toNat, by omega⟩
        have hn1 : 1 ≤ n := by omega
        have hn2 : n ≤ 40 := by omega
        clear hbig hs1
        go_wp2_with fail
        refine (dsk_New_ok n hn1 (by omega) _).mono ?_
        rintro e w3 ⟨F3, g, rfl, hd, hb, hF⟩
        have HD3 := Lib.hid (show DW w w3 F3 g n ⟨List.replicate (512 * n) 0#8, [], none⟩ from ⟨hd, HF2.out.trans hb, fun x hx => Nat.le_trans HF2.out.le (hF x hx)⟩)
        clear hd hb hF
        go_wp2_with fail
        refine (ref_New_ok n hn1 (by omega) _).mono ?_
        rintro e w4 ⟨G4, h, rfl, hd, hb, hG⟩
        have HT4 := Lib.hid (show Two w w4 F3 g G4 h n ⟨List.replicate (512 * n) 0#8, [], none⟩ ⟨List.replicate (512 * n) 0#8, [], none⟩ from
          ⟨HD3.out.fbn hb, hd, fun x hx => Nat.le_trans HD3.out.fb.le (hG x hx), fun x hx hg => by have h1 := HD3.out.dsk.lt x hx; have h2 := hG x hg; omega⟩)
        clear hd hb hG
        go_wp2
        go_loopw [9] (fun c9 wr => ∃ (j : Nat) (F G : List Nat) (D : DiskSt), j ≤ l.length ∧ c9 = .int .i64 j ∧ Hid (Two w wr F g G h n D D)) (fun c9 _ => l.length - (intOf c9).toNat)
        case atStart => exact ⟨0, F3, G4, _, by omega, rfl, HT4.out⟩
        case round =>
          clear HD3 HT4
          obtain ⟨j, F, G, D, hj, rfl, HT⟩ := hrel
          by_cases hlt : j < l.length
          · have hjx : (j : Int) < (l.length : Int) := by omega
            obtain ⟨b, o, rfl, ha0⟩ := HR.out j hlt
            have HOKA := Lib.hid (HOKL.out _ (List.getElem_mem hlt))
            have HKA := Lib.hid (HKS.out _ (List.getElem_mem hlt))
            have ha := ha0.fb HT.out.dw.fb
            generalize l[j] = a at *
            obtain ⟨K, At, V, B, N, KA, kc, ks, T, Y⟩ := a
            have HKR0 := Lib.hid ha.keep
            have HKW := Lib.hid ha0.keep
            obtain ⟨c0, c1, c2, c3, c4, c5, c6, c7, -⟩ := ha
            simp only at c0 c1 c2 c3 c4 c5 c6 c7 HKR0 HKA HKW
            have hfb := (FB.refl wr).alloc (.cells #[.int .i64 K, .int .i64 At, .int .u8 (nb V), .int .u8 (nb B), .int .i64 N, .slice KA ks.length kc, .int .i64 T, .int .i64 Y] 38)
            have HTa := Lib.hid (HT.out.fb hfb)
            have HKRa := Lib.hid (hfb.rdV HKR0.out)
            have HRWa := Lib.hid (heap_alloc_new wr (.cells #[.int .i64 K, .int .i64 At, .int .u8 (nb V), .int .u8 (nb B), .int .i64 N, .slice KA ks.length kc, .int .i64 T, .int .i64 Y] 38))
            obtain ⟨bx, hbx⟩ : ∃ bx, bx = wr.heap.size := ⟨_, rfl⟩
            have HBF := Lib.hid (show bx ∉ F from by rw [hbx]; exact HT.out.dw.notin (Nat.le_refl _))
            have HBG := Lib.hid (show bx ∉ G from fun hm => by have := HT.out.rd.lt _ hm; omega)
            obtain ⟨q0, q1, q2, q3, q4, q5, q6, q7⟩ := row8 HRWa.out
            go_wp2_with fail
            clear c0 c1 c2 c3 c4 c5 c6 c7 hfb q0 q1 q2 q3 q4 q5 q6 q7 HKR0
            rw [← hbx] at HRWa ⊢
            clear hbx
            generalize wr.alloc (.cells #[.int .i64 K, .int .i64 At, .int .u8 (nb V), .int .u8 (nb B), .int .i64 N, .slice KA ks.length kc, .int .i64 T, .int .i64 Y] 38) = wa at *
            refine (kit_Pick K 6 _ (by omega) (by omega)).mono ?_
            rintro e w5 ⟨rfl, rfl⟩
            generalize pick K 6 = p
            by_cases hp0 : p = 0
            · subst hp0
              obtain ⟨q0, q1, q2, q3, q4, q5, q6, q7⟩ := row8 HRWa.out
              go_wp2_with fail
              refine (dsk_Read HTa.out.dw.dsk At).mono ?_
              rintro e w6 ⟨A6, c6, rfl, hr6, hA6, hd, ht, hl6, -⟩
              obtain ⟨F7, h7, -⟩ := HTa.out.stepD (DskRes.of hd ht)
              have HT6 := Lib.hid h7
              have HR6 := Lib.hid hr6
              have HRW6 := Lib.hid (HTa.out.keepD ht HRWa.out HBF.out)
              have HA6 := Lib.hid (show ∀ ad, A6 = some ad → ad.block ∉ G from fun ad ha hm => by have h1 := hA6 ad ha; have h2 := HTa.out.rd.lt _ hm; omega)
              clear q0 q1 q2 q3 q4 q5 q6 q7 hr6 hA6 hd ht hl6 h7
              obtain ⟨q0, q1, q2, q3, q4, q5, q6, q7⟩ := row8 HRW6.out
              go_wp2_with fail
              refine (ref_Read HT6.out.rd At).mono ?_
              rintro e w7 ⟨A7, c7, rfl, hr7, -, hd, ht⟩
              obtain ⟨G7, h7, -⟩ := HT6.out.stepR (RRes.of hd ht)
              have HT7 := Lib.hid h7
              have hx6 := ht.rd HR6.out HA6.out
              clear q0 q1 q2 q3 q4 q5 q6 q7 h7 hd ht
              generalize (sdRead D n At).1 = xs at *
              generalize (sdRead D n At).2.1 = E at *
              generalize (sdRead D n At).2.2 = D7 at *
              have HS1 := Lib.hid (fun W (hw : FB w7 W) => run_string c6 (FB.rd hw hx6))
              have HS2 := Lib.hid (fun W (hw : FB w7 W) => run_string c7 (FB.rd hw hr7))
              clear hx6 hr7 HR6
              have HML := Lib.hid (show D7.M.length ≤ 1000000000 from by have := HT7.out.dw.dsk.mlen; have := HT7.out.dw.dsk.ok.n2; omega)
              have u1 := HS1.out _ (FB.refl _)
              have u2 := HS2.out _ (FB.refl _)
              go_wp2_with fail
              clear u1 u2
              refine (dsk_Cached HT7.out.dw.dsk).mono ?_
              rintro e w9 ⟨A9, c9, rfl, hr9, hb9, -⟩
              have HR9 := Lib.hid hr9
              have HT9 := Lib.hid (HT7.out.fb hb9)
              clear hr9 hb9
              go_wp2_with fail
              refine (ref_Cached HT9.out.rd).mono ?_
              rintro e w10 ⟨A10, c10, rfl, hr10, hb10⟩
              have HR10 := Lib.hid hr10
              have HR9a := Lib.hid (hb10.rdV HR9.out)
              have HT10 := Lib.hid (HT9.out.fb hb10)
              clear hr10 hb10
              go_wp2_with fail
              refine (kit_Ints (D7.M.map (·.1)) (D7.M.map (·.1)) A9 A10 _ _ c9 c10 _ (by rw [List.length_map]) (by rw [List.length_map]) (by rw [List.length_map]; exact HML.out) (by rw [List.length_map]; exact HML.out) HR9a.out HR10.out).mono ?_
              rintro e w11 ⟨rfl, hb11⟩
              rw [decide_eq_true (rfl : D7.M.map (·.1) = D7.M.map (·.1))]
              have HT11 := Lib.hid (HT10.out.fb hb11)
              clear hb11
              go_wp2
              go_roundw
              case rel => exact ⟨j + 1, F7, G7, D7, by omega, by go_num, HT11.out⟩
              case measure => simp [intOf]; omega
            · by_cases hp3 : p = 3
              · subst hp3
                clear hp0
                go_wp2_with fail
                refine (dsk_Flush HTa.out.dw.dsk).mono ?_
                rintro e w6 ⟨rfl, hd, ht⟩
                obtain ⟨F7, h7, -⟩ := HTa.out.stepD (DskRes.of hd ht)
                have HT6 := Lib.hid h7
                clear hd ht h7
                go_wp2_with fail
                refine (ref_Flush HT6.out.rd).mono ?_
                rintro e w7 ⟨rfl, hd, ht⟩
                obtain ⟨G7, h7, -⟩ := HT6.out.stepR (RRes.of hd ht)
                have HT7 := Lib.hid h7
                clear hd ht h7
                generalize (sdFlush D).1 = E at *
                generalize (sdFlush D).2 = D7 at *
                obtain ⟨xs, hxs⟩ : ∃ xs : List Byte, xs = [] := ⟨_, rfl⟩
                have HS1 := Lib.hid (fun W (hw : FB w7 W) => conv_nil W)
                rw [← hxs] at HS1
                have HS2 := Lib.hid HS1.out
                clear hxs
                have HML := Lib.hid (show D7.M.length ≤ 1000000000 from by have := HT7.out.dw.dsk.mlen; have := HT7.out.dw.dsk.ok.n2; omega)
                have u1 := HS1.out _ (FB.refl _)
                have u2 := HS2.out _ (FB.refl _)
                go_wp2_with fail
                clear u1 u2
                refine (dsk_Cached HT7.out.dw.dsk).mono ?_
                rintro e w9 ⟨A9, c9, rfl, hr9, hb9, -⟩
                have HR9 := Lib.hid hr9
                have HT9 := Lib.hid (HT7.out.fb hb9)
                clear hr9 hb9
                go_wp2_with fail
                refine (ref_Cached HT9.out.rd).mono ?_
                rintro e w10 ⟨A10, c10, rfl, hr10, hb10⟩
                have HR10 := Lib.hid hr10
                have HR9a := Lib.hid (hb10.rdV HR9.out)
                have HT10 := Lib.hid (HT9.out.fb hb10)
                clear hr10 hb10
                go_wp2_with fail
                refine (kit_Ints (D7.M.map (·.1)) (D7.M.map (·.1)) A9 A10 _ _ c9 c10 _ (by rw [List.length_map]) (by rw [List.length_map]) (by rw [List.length_map]; exact HML.out) (by rw [List.length_map]; exact HML.out) HR9a.out HR10.out).mono ?_
                rintro e w11 ⟨rfl, hb11⟩
                rw [decide_eq_true (rfl : D7.M.map (·.1) = D7.M.map (·.1))]
                have HT11 := Lib.hid (HT10.out.fb hb11)
                clear hb11
                go_wp2
                go_roundw
                case rel => exact ⟨j + 1, F7, G7, D7, by omega, by go_num, HT11.out⟩
                case measure => simp [intOf]; omega
              · by_cases hp4 : p = 4
                · subst hp4
                  clear hp0 hp3
                  obtain ⟨W5, hW5⟩ : ∃ W5 : World, W5 = wa := ⟨_, rfl⟩
                  go_wp2_with fail
                  rw [← hW5]
                  refine region_sch (E := TS (F ++ G)) ((0, true) :: (1, true) :: (2, true) :: (4, true) :: (5, true) :: (6, true) :: (3, false) :: (7, false) :: (8, true) :: (9, true) :: []) (by kernel_rfl) (TS.refl _) (fun _ _ _ h k => TS.then h k) (fun _ _ d _ _ h => by cases d <;> exact h) (by kernel_rfl) ?_
                  intro ops hops0
                  have hops := Lib.hid hops0
                  clear hops0
                  have HF : TS (F ++ G) W5 W5.drew := TS.of (FB.refl _).drew
                  have HD : FB W5 W5.drew := (FB.refl _).drew
                  generalize W5.drew = wF5 at *
                  rw [hW5] at HF HD
                  clear hW5
                  have HTb := Lib.hid (HTa.out.fb HD)
                  have HQ := Lib.hid (row8 ((HD.block _ (Array.getElem?_eq_some_iff.1 HRWa.out).1).trans HRWa.out))
                  have HBX := Lib.hid (show bx ∉ F ++ G from by simp only [List.mem_append, not_or]; exact ⟨HBF.out, HBG.out⟩)
                  repeat (refine sch_take (o := ?_) (v := ?_) (a' := ?_) (at_of hops.out ?_) ?_ (fun W hW => ?_) ?_ ?_; rotate_left 3; (focus (simp only [List.getElem?_toArray, List.getElem?_cons_zero, List.getElem?_cons_succ]; rfl)); (focus (rw [hops.out]; rfl)); (focus (have u1 := TS.cell hW HQ.out.2.2.2.2.1 HBX.out; go_simp; with_reducible rfl)); (focus (simp only [Act.put, List.setIfInBounds_toArray, List.set_cons_zero, List.set_cons_succ]; rfl)))
                  (refine sch_call (o := ?_) (f := ?_) (args := ?_) (at_of hops.out ?_) ?_ ?_ ?_; rotate_left 3; (focus (simp only [List.getElem?_toArray, List.getElem?_cons_zero, List.getElem?_cons_succ]; rfl)); (focus (rw [hops.out]; rfl)); (focus (go_simp; constructor <;> with_reducible rfl)); (first | ((with_reducible refine (dsk_Fail HTb.out.dw.dsk N HOKA.out.hN.2).mono ?_); rintro e w6 ⟨rfl, hres⟩; obtain ⟨F7, h7, t7⟩ := HTb.out.stepD hres; have HT6 := Lib.hid h7; have HTS6 := Lib.hid t7; clear hres h7 t7; refine ⟨_, rfl, (TS.refl _ _).trans HTS6.out (fun x hx => .inl (by simp [hx])), ?_⟩; intro a' ha'; simp only [Act.put, List.setIfInBounds_toArray, List.set_cons_zero, List.set_cons_succ] at ha'; subst ha')))
                  (refine sch_call (o := ?_) (f := ?_) (args := ?_) (at_of hops.out ?_) ?_ ?_ ?_; rotate_left 3; (focus (simp only [List.getElem?_toArray, List.getElem?_cons_zero, List.getElem?_cons_succ]; rfl)); (focus (rw [hops.out]; rfl)); (focus (go_simp; constructor <;> with_reducible rfl)); (first | ((with_reducible refine (ref_Fail HT6.out.rd N HOKA.out.hN.2).mono ?_); rintro e w7 ⟨rfl, hres⟩; obtain ⟨G7, h7, t7⟩ := HT6.out.stepR hres; have HT7 := Lib.hid h7; have HTS7 := Lib.hid t7; clear hres h7 t7; refine ⟨_, rfl, (TS.refl _ _).trans HTS7.out (fun x hx => .inl (by simp [hx])), ?_⟩; intro a' ha'; simp only [Act.put, List.setIfInBounds_toArray, List.set_cons_zero, List.set_cons_succ] at ha'; subst ha')))
                  repeat (refine sch_take (o := ?_) (v := ?_) (a' := ?_) (at_of hops.out ?_) ?_ (fun W hW => ?_) ?_ ?_; rotate_left 3; (focus (simp only [List.getElem?_toArray, List.getElem?_cons_zero, List.getElem?_cons_succ]; rfl)); (focus (rw [hops.out]; rfl)); (focus (go_simp; with_reducible rfl)); (focus (simp only [Act.put, List.setIfInBounds_toArray, List.set_cons_zero, List.set_cons_succ]; rfl)))
                  refine sch_done ?_
                  clear hops HF HD
                  obtain ⟨D7, hD7⟩ : ∃ D7 : DiskSt, D7 = { D with fuse := if 0 ≤ N then some N else none } := ⟨_, rfl⟩
                  rw [← hD7] at HT7
                  obtain ⟨xs, hxs⟩ : ∃ xs : List Byte, xs = [] := ⟨_, rfl⟩
                  have HS1 := Lib.hid (fun W (hw : FB w7 W) => conv_nil W)
                  rw [← hxs] at HS1
                  have HS2 := Lib.hid HS1.out
                  clear hxs hD7 HT6
                  have HML := Lib.hid (show D7.M.length ≤ 1000000000 from by have := HT7.out.dw.dsk.mlen; have := HT7.out.dw.dsk.ok.n2; omega)
                  have u1 := HS1.out _ (FB.refl _)
                  have u2 := HS2.out _ (FB.refl _)
                  go_wp2_with fail
                  clear u1 u2
                  refine (dsk_Cached HT7.out.dw.dsk).mono ?_
                  rintro e w9 ⟨A9, c9, rfl, hr9, hb9, -⟩
                  have HR9 := Lib.hid hr9
                  have HT9 := Lib.hid (HT7.out.fb hb9)
                  clear hr9 hb9
                  go_wp2_with fail
                  refine (ref_Cached HT9.out.rd).mono ?_
                  rintro e w10 ⟨A10, c10, rfl, hr10, hb10⟩
                  have HR10 := Lib.hid hr10
                  have HR9a := Lib.hid (hb10.rdV HR9.out)
                  have HT10 := Lib.hid (HT9.out.fb hb10)
                  clear hr10 hb10
                  go_wp2_with fail
                  refine (kit_Ints (D7.M.map (·.1)) (D7.M.map (·.1)) A9 A10 _ _ c9 c10 _ (by rw [List.length_map]) (by rw [List.length_map]) (by rw [List.length_map]; exact HML.out) (by rw [List.length_map]; exact HML.out) HR9a.out HR10.out).mono ?_
                  rintro e w11 ⟨rfl, hb11⟩
                  rw [decide_eq_true (rfl : D7.M.map (·.1) = D7.M.map (·.1))]
                  have HT11 := Lib.hid (HT10.out.fb hb11)
                  clear hb11
                  go_wp2
                  go_roundw
                  case rel => exact ⟨j + 1, F7, G7, D7, by omega, by go_num, HT11.out⟩
                  case measure => simp [intOf]; omega
                · by_cases hp5 : p = 5
                  · subst hp5
                    clear hp0 hp3 hp4
                    have HKL := Lib.hid (show ks.length ≤ 1000000000 from by have := HKA.out; omega)
                    obtain ⟨W5, hW5⟩ : ∃ W5 : World, W5 = wa := ⟨_, rfl⟩
                    go_wp2_with fail
                    rw [← hW5]
                    refine region_sch (E := TS (F ++ G)) ((0, true) :: (1, true) :: (2, true) :: (5, true) :: (6, true) :: (7, true) :: (3, false) :: (4, false) :: (8, false) :: (9, true) :: (10, true) :: []) (by kernel_rfl) (TS.refl _) (fun _ _ _ h k => TS.then h k) (fun _ _ d _ _ h => by cases d <;> exact h) (by kernel_rfl) ?_
                    intro ops hops0
                    have hops := Lib.hid hops0
                    clear hops0
                    have HF : TS (F ++ G) W5 W5.drew := TS.of (FB.refl _).drew
                    have HD : FB W5 W5.drew := (FB.refl _).drew
                    generalize W5.drew = wF5 at *
                    rw [hW5] at HF HD
                    clear hW5
                    have HTb := Lib.hid (HTa.out.fb HD)
                    have HKRb := Lib.hid (HD.rdV HKRa.out)
                    have HQ := Lib.hid (row8 ((HD.block _ (Array.getElem?_eq_some_iff.1 HRWa.out).1).trans HRWa.out))
                    have HBX := Lib.hid (show bx ∉ F ++ G from by simp only [List.mem_append, not_or]; exact ⟨HBF.out, HBG.out⟩)
                    repeat (refine sch_take (o := ?_) (v := ?_) (a' := ?_) (at_of hops.out ?_) ?_ (fun W hW => ?_) ?_ ?_; rotate_left 3; (focus (simp only [List.getElem?_toArray, List.getElem?_cons_zero, List.getElem?_cons_succ]; rfl)); (focus (rw [hops.out]; rfl)); (focus (have u1 := TS.cell hW HQ.out.2.2.2.2.2.1 HBX.out; have u2 := TS.cell hW HQ.out.2.2.2.2.2.2.1 HBX.out; have u3 := TS.cell hW HQ.out.2.2.2.2.2.2.2 HBX.out; go_simp; with_reducible rfl)); (focus (simp only [Act.put, List.setIfInBounds_toArray, List.set_cons_zero, List.set_cons_succ]; rfl)))
                    (refine sch_call (o := ?_) (f := ?_) (args := ?_) (at_of hops.out ?_) ?_ ?_ ?_; rotate_left 3; (focus (simp only [List.getElem?_toArray, List.getElem?_cons_zero, List.getElem?_cons_succ]; rfl)); (focus (rw [hops.out]; rfl)); (focus (go_simp; constructor <;> with_reducible rfl)); (first | ((with_reducible refine (kit_Crash KA ks kc T Y _ HKRb.out HKL.out).mono ?_); rintro e w6 ⟨A6, c6, rfl, hr6, hb6, hA6⟩; have HTc := Lib.hid (HTb.out.fb hb6); have HR6 := Lib.hid hr6; have HA6 := Lib.hid (fun ad (ha : A6 = some ad) => HTb.out.dw.notin (hA6 ad ha)); have HKRc := Lib.hid (hb6.rdV HKRb.out); have HF6 := Lib.hid hb6; clear hr6 hb6 hA6; refine ⟨_, rfl, TS.of HF6.out, ?_⟩; intro a' ha'; simp only [Act.put, List.setIfInBounds_toArray, List.set_cons_zero, List.set_cons_succ] at ha'; subst ha')))
                    (refine sch_call (o := ?_) (f := ?_) (args := ?_) (at_of hops.out ?_) ?_ ?_ ?_; rotate_left 3; (focus (simp only [List.getElem?_toArray, List.getElem?_cons_zero, List.getElem?_cons_succ]; rfl)); (focus (rw [hops.out]; rfl)); (focus (go_simp; constructor <;> with_reducible rfl)); (first | ((with_reducible refine (dsk_Crash HTc.out.dw.dsk A6 c6 ks T Y HR6.out HA6.out).mono ?_); rintro e w7 ⟨rfl, hd, ht⟩; obtain ⟨F7, h7, t7⟩ := HTc.out.stepD (DskRes.of hd ht); have HT6 := Lib.hid h7; have HTS6 := Lib.hid t7; clear hd ht h7 t7; refine ⟨_, rfl, (TS.refl _ _).trans HTS6.out (fun x hx => .inl (by simp [hx])), ?_⟩; intro a' ha'; simp only [Act.put, List.setIfInBounds_toArray, List.set_cons_zero, List.set_cons_succ] at ha'; subst ha')))
                    have HKRd := Lib.hid (show RdV w7 KA (ks.map .bool) from by
                      rcases Nat.eq_zero_or_pos ks.length with h0 | h0
                      · obtain rfl := List.eq_nil_of_length_eq_zero h0
                        exact RdV.nil _ _
                      · exact RdV.move HKRc.out fun a v e hc => HTS6.out.cell hc (fun hm => by
                          cases KA with
                          | none => cases e
                          | some ad =>
                            obtain ⟨kb, ko, e2, hk, -⟩ := RdV.form HKW.out (by simpa using h0)
                            cases e2
                            simp at e
                            rw [← e] at hm
                            have := HTc.out.dw.own _ hm
                            omega))
                    have HKD := Lib.hid (show ∀ ad, KA = some ad → 0 < ks.length → ad.block ∉ G from fun ad ha h0 hm => by
                      obtain ⟨kb, ko, e2, hk, -⟩ := RdV.form HKW.out (by simpa using h0)
                      rw [ha] at e2
                      cases e2
                      have := HT.out.own _ hm
                      simp at this
                      omega)
                    (refine sch_call (o := ?_) (f := ?_) (args := ?_) (at_of hops.out ?_) ?_ ?_ ?_; rotate_left 3; (focus (simp only [List.getElem?_toArray, List.getElem?_cons_zero, List.getElem?_cons_succ]; rfl)); (focus (rw [hops.out]; rfl)); (focus (go_simp; constructor <;> with_reducible rfl)); (first | ((with_reducible refine (ref_Crash HT6.out.rd KA kc ks T Y HKRd.out HKD.out HKL.out).mono ?_); rintro e w8 ⟨rfl, hd, ht⟩; obtain ⟨G7, h7, t7⟩ := HT6.out.stepR (RRes.of hd ht); have HT7 := Lib.hid h7; have HTS7 := Lib.hid t7; clear hd ht h7 t7; refine ⟨_, rfl, (TS.refl _ _).trans HTS7.out (fun x hx => .inl (by simp [hx])), ?_⟩; intro a' ha'; simp only [Act.put, List.setIfInBounds_toArray, List.set_cons_zero, List.set_cons_succ] at ha'; subst ha')))
                    repeat (refine sch_take (o := ?_) (v := ?_) (a' := ?_) (at_of hops.out ?_) ?_ (fun W hW => ?_) ?_ ?_; rotate_left 3; (focus (simp only [List.getElem?_toArray, List.getElem?_cons_zero, List.getElem?_cons_succ]; rfl)); (focus (rw [hops.out]; rfl)); (focus (go_simp; with_reducible rfl)); (focus (simp only [Act.put, List.setIfInBounds_toArray, List.set_cons_zero, List.set_cons_succ]; rfl)))
                    refine sch_done ?_
                    clear hops HF HD
                    obtain ⟨D7, hD7⟩ : ∃ D7 : DiskSt, D7 = ⟨crashB (keptLen ks T Y) D.M D.b D.M.length, [], none⟩ := ⟨_, rfl⟩
                    rw [← hD7] at HT7
                    obtain ⟨xs, hxs⟩ : ∃ xs : List Byte, xs = [] := ⟨_, rfl⟩
                    have HS1 := Lib.hid (fun W (hw : FB w8 W) => conv_nil W)
                    rw [← hxs] at HS1
                    have HS2 := Lib.hid HS1.out
                    clear hxs hD7 HT6
                    have HML := Lib.hid (show D7.M.length ≤ 1000000000 from by have := HT7.out.dw.dsk.mlen; have := HT7.out.dw.dsk.ok.n2; omega)
                    have u1 := HS1.out _ (FB.refl _)
                    have u2 := HS2.out _ (FB.refl _)
                    go_wp2_with fail
                    clear u1 u2
                    refine (dsk_Cached HT7.out.dw.dsk).mono ?_
                    rintro e w9 ⟨A9, c9, rfl, hr9, hb9, -⟩
                    have HR9 := Lib.hid hr9
                    have HT9 := Lib.hid (HT7.out.fb hb9)
                    clear hr9 hb9
                    go_wp2_with fail
                    refine (ref_Cached HT9.out.rd).mono ?_
                    rintro e w10 ⟨A10, c10, rfl, hr10, hb10⟩
                    have HR10 := Lib.hid hr10
                    have HR9a := Lib.hid (hb10.rdV HR9.out)
                    have HT10 := Lib.hid (HT9.out.fb hb10)
                    clear hr10 hb10
                    go_wp2_with fail
                    refine (kit_Ints (D7.M.map (·.1)) (D7.M.map (·.1)) A9 A10 _ _ c9 c10 _ (by rw [List.length_map]) (by rw [List.length_map]) (by rw [List.length_map]; exact HML.out) (by rw [List.length_map]; exact HML.out) HR9a.out HR10.out).mono ?_
                    rintro e w11 ⟨rfl, hb11⟩
                    rw [decide_eq_true (rfl : D7.M.map (·.1) = D7.M.map (·.1))]
                    have HT11 := Lib.hid (HT10.out.fb hb11)
                    clear hb11
                    go_wp2
                    go_roundw
                    case rel => exact ⟨j + 1, F7, G7, D7, by omega, by go_num, HT11.out⟩
                    case measure => simp [intOf]; omega
                  · have hb0 : (p == 0) = false := by simpa using hp0
                    have hb3 : (p == 3) = false := by simpa using hp3
                    have hb4 : (p == 4) = false := by simpa using hp4
                    have hb5 : (p == 5) = false := by simpa using hp5
                    clear hp0 hp3 hp4 hp5
                    obtain ⟨W5, hW5⟩ : ∃ W5 : World, W5 = wa := ⟨_, rfl⟩
                    go_wp2_with fail
                    rw [← hW5]
                    refine region_sch (E := TS (F ++ G)) ((0, true) :: (1, true) :: (2, true) :: (3, true) :: (6, true) :: (7, true) :: (8, true) :: (9, true) :: (4, false) :: (5, false) :: (10, false) :: (11, false) :: (12, true) :: (13, true) :: []) (by kernel_rfl) (TS.refl _) (fun _ _ _ h k => TS.then h k) (fun _ _ d _ _ h => by cases d <;> exact h) (by kernel_rfl) ?_
                    intro ops hops0
                    have hops := Lib.hid hops0
                    clear hops0
                    have HF : TS (F ++ G) W5 W5.drew := TS.of (FB.refl _).drew
                    have HD : FB W5 W5.drew := (FB.refl _).drew
                    generalize W5.drew = wF5 at *
                    rw [hW5] at HF HD
                    clear hW5
                    have HTb := Lib.hid (HTa.out.fb HD)
                    have HRWb := Lib.hid ((HD.block _ (Array.getElem?_eq_some_iff.1 HRWa.out).1).trans HRWa.out)
                    have HQ := Lib.hid (row8 HRWb.out)
                    have HBX := Lib.hid (show bx ∉ F ++ G from by simp only [List.mem_append, not_or]; exact ⟨HBF.out, HBG.out⟩)
                    repeat (refine sch_take (o := ?_) (v := ?_) (a' := ?_) (at_of hops.out ?_) ?_ (fun W hW => ?_) ?_ ?_; rotate_left 3; (focus (simp only [List.getElem?_toArray, List.getElem?_cons_zero, List.getElem?_cons_succ]; rfl)); (focus (rw [hops.out]; rfl)); (focus (have u0 := TS.cell hW HQ.out.1 HBX.out; have u1 := TS.cell hW HQ.out.2.1 HBX.out; have u2 := TS.cell hW HQ.out.2.2.1 HBX.out; have u3 := TS.cell hW HQ.out.2.2.2.1 HBX.out; have u4 := TS.cell hW HQ.out.2.2.2.2.1 HBX.out; have u5 := TS.cell hW HQ.out.2.2.2.2.2.1 HBX.out; have u6 := TS.cell hW HQ.out.2.2.2.2.2.2.1 HBX.out; have u7 := TS.cell hW HQ.out.2.2.2.2.2.2.2 HBX.out; go_simp; with_reducible rfl)); (focus (simp only [Act.put, List.setIfInBounds_toArray, List.set_cons_zero, List.set_cons_succ]; rfl)))
                    (refine sch_call (o := ?_) (f := ?_) (args := ?_) (at_of hops.out ?_) ?_ ?_ ?_; rotate_left 3; (focus (simp only [List.getElem?_toArray, List.getElem?_cons_zero, List.getElem?_cons_succ]; rfl)); (focus (rw [hops.out]; rfl)); (focus (go_simp; constructor <;> with_reducible rfl)); (first | ((with_reducible refine (act_bytes ⟨K, At, V, B, N, KA, kc, ks, T, Y⟩ _).mono ?_); rintro e w6 ⟨A6, rfl, ho6, hb6⟩; have HO6 := Lib.hid (Own.info ho6); have HTc := Lib.hid (HTb.out.fb hb6); have HF6 := Lib.hid hb6; clear ho6 hb6; refine ⟨_, rfl, TS.of HF6.out, ?_⟩; intro a' ha'; simp only [Act.put, List.setIfInBounds_toArray, List.set_cons_zero, List.set_cons_succ] at ha'; subst ha')))
                    (refine sch_call (o := ?_) (f := ?_) (args := ?_) (at_of hops.out ?_) ?_ ?_ ?_; rotate_left 3; (focus (simp only [List.getElem?_toArray, List.getElem?_cons_zero, List.getElem?_cons_succ]; rfl)); (focus (rw [hops.out]; rfl)); (focus (go_simp; constructor <;> with_reducible rfl)); (first | ((with_reducible refine (dsk_Write HTc.out.dw.dsk At A6 512 512 (actRow V B) (actRow_len V B).symm (by rw [actRow_len]; omega) HO6.out.2.2.1 (fun ad ha => HTb.out.dw.notin (HO6.out.2.2.2.2 ad ha).1)).mono ?_); rintro e w7 ⟨rfl, hres⟩; obtain ⟨F7, h7, t7⟩ := HTc.out.stepD hres; have HTd := Lib.hid h7; have HTS7 := Lib.hid t7; clear hres h7 t7; refine ⟨_, rfl, (TS.refl _ _).trans HTS7.out (fun x hx => .inl (by simp [hx])), ?_⟩; intro a' ha'; simp only [Act.put, List.setIfInBounds_toArray, List.set_cons_zero, List.set_cons_succ] at ha'; subst ha')))
                    (refine sch_call (o := ?_) (f := ?_) (args := ?_) (at_of hops.out ?_) ?_ ?_ ?_; rotate_left 3; (focus (simp only [List.getElem?_toArray, List.getElem?_cons_zero, List.getElem?_cons_succ]; rfl)); (focus (rw [hops.out]; rfl)); (focus (go_simp; constructor <;> with_reducible rfl)); (first | ((with_reducible refine (act_bytes ⟨K, At, V, B, N, KA, kc, ks, T, Y⟩ _).mono ?_); rintro e w8 ⟨A8, rfl, ho8, hb8⟩; have HO8 := Lib.hid (Own.info ho8); have HTe := Lib.hid (HTd.out.fb hb8); have HF8 := Lib.hid hb8; clear ho8 hb8; refine ⟨_, rfl, TS.of HF8.out, ?_⟩; intro a' ha'; simp only [Act.put, List.setIfInBounds_toArray, List.set_cons_zero, List.set_cons_succ] at ha'; subst ha')))
                    (refine sch_call (o := ?_) (f := ?_) (args := ?_) (at_of hops.out ?_) ?_ ?_ ?_; rotate_left 3; (focus (simp only [List.getElem?_toArray, List.getElem?_cons_zero, List.getElem?_cons_succ]; rfl)); (focus (rw [hops.out]; rfl)); (focus (go_simp; constructor <;> with_reducible rfl)); (first | ((with_reducible refine (ref_Write HTe.out.rd At A8 512 512 (actRow V B) (actRow_len V B).symm (by rw [actRow_len]; omega) HO8.out.2.2.1 (fun ad ha hm => by have h1 := (HO8.out.2.2.2.2 ad ha).1; have h2 := HTd.out.rd.lt _ hm; omega)).mono ?_); rintro e w9 ⟨rfl, hres⟩; obtain ⟨G7, h7, t7⟩ := HTe.out.stepR hres; have HT7 := Lib.hid h7; have HTS9 := Lib.hid t7; clear hres h7 t7; refine ⟨_, rfl, (TS.refl _ _).trans HTS9.out (fun x hx => .inl (by simp [hx])), ?_⟩; intro a' ha'; simp only [Act.put, List.setIfInBounds_toArray, List.set_cons_zero, List.set_cons_succ] at ha'; subst ha')))
                    repeat (refine sch_take (o := ?_) (v := ?_) (a' := ?_) (at_of hops.out ?_) ?_ (fun W hW => ?_) ?_ ?_; rotate_left 3; (focus (simp only [List.getElem?_toArray, List.getElem?_cons_zero, List.getElem?_cons_succ]; rfl)); (focus (rw [hops.out]; rfl)); (focus (go_simp; with_reducible rfl)); (focus (simp only [Act.put, List.setIfInBounds_toArray, List.set_cons_zero, List.set_cons_succ]; rfl)))
                    refine sch_done ?_
                    clear hops HF HD HTb HTc HTd HTe
                    generalize (sdWrite D n At (actRow V B)).1 = E at *
                    generalize (sdWrite D n At (actRow V B)).2 = D7 at *
                    obtain ⟨xs, hxs⟩ : ∃ xs : List Byte, xs = [] := ⟨_, rfl⟩
                    have HS1 := Lib.hid (fun W (hw : FB w9 W) => conv_nil W)
                    rw [← hxs] at HS1
                    have HS2 := Lib.hid HS1.out
                    clear hxs
                    have HML := Lib.hid (show D7.M.length ≤ 1000000000 from by have := HT7.out.dw.dsk.mlen; have := HT7.out.dw.dsk.ok.n2; omega)
                    have u1 := HS1.out _ (FB.refl _)
                    have u2 := HS2.out _ (FB.refl _)
                    go_wp2_with fail
                    clear u1 u2
                    refine (dsk_Cached HT7.out.dw.dsk).mono ?_
                    rintro e w9 ⟨A9, c9, rfl, hr9, hb9, -⟩
                    have HR9 := Lib.hid hr9
                    have HT9 := Lib.hid (HT7.out.fb hb9)
                    clear hr9 hb9
                    go_wp2_with fail
                    refine (ref_Cached HT9.out.rd).mono ?_
                    rintro e w10 ⟨A10, c10, rfl, hr10, hb10⟩
                    have HR10 := Lib.hid hr10
                    have HR9a := Lib.hid (hb10.rdV HR9.out)
                    have HT10 := Lib.hid (HT9.out.fb hb10)
                    clear hr10 hb10
                    go_wp2_with fail
                    refine (kit_Ints (D7.M.map (·.1)) (D7.M.map (·.1)) A9 A10 _ _ c9 c10 _ (by rw [List.length_map]) (by rw [List.length_map]) (by rw [List.length_map]; exact HML.out) (by rw [List.length_map]; exact HML.out) HR9a.out HR10.out).mono ?_
                    rintro e w11 ⟨rfl, hb11⟩
                    rw [decide_eq_true (rfl : D7.M.map (·.1) = D7.M.map (·.1))]
                    have HT11 := Lib.hid (HT10.out.fb hb11)
                    clear hb11
                    go_wp2
                    go_roundw
                    case rel => exact ⟨j + 1, F7, G7, D7, by omega, by go_num, HT11.out⟩
                    case measure => simp [intOf]; omega
          · obtain rfl : j = l.length := by omega
            have hjx : ¬ (l.length : Int) < (l.length : Int) := by omega
            go_wp2_with fail
            obtain ⟨W5, hW5⟩ : ∃ W5 : World, W5 = wr := ⟨_, rfl⟩
            rw [← hW5]
            refine region_sch (E := FB) ((0, true) :: (3, true) :: (1, false) :: (2, true) :: (4, false) :: (5, true) :: (6, true) :: (7, true) :: (8, true) :: (10, true) :: (9, false) :: (11, false) :: (12, true) :: (13, true) :: (14, true) :: []) (by kernel_rfl) FB.refl fb_trans (fun _ _ d _ _ h => by cases d <;> exact h) (by kernel_rfl) ?_
            intro ops hops0
            have hops := Lib.hid hops0
            clear hops0
            have HF : FB W5 W5.drew := (FB.refl _).drew
            generalize W5.drew = wF5 at *
            rw [hW5] at HF
            clear hW5
            have HTa := Lib.hid (HT.out.fb HF)
            have HLEN := Lib.hid HT.out.dw.dsk.ok.len
            repeat (refine sch_take (o := ?_) (v := ?_) (a' := ?_) (at_of hops.out ?_) ?_ (fun W hW => ?_) ?_ ?_; rotate_left 3; (focus (simp only [List.getElem?_toArray, List.getElem?_cons_zero, List.getElem?_cons_succ]; rfl)); (focus (rw [hops.out]; rfl)); (focus (go_simp; with_reducible rfl)); (focus (simp only [Act.put, List.setIfInBounds_toArray, List.set_cons_zero, List.set_cons_succ]; rfl)))
            (refine sch_call (o := ?_) (f := ?_) (args := ?_) (at_of hops.out ?_) ?_ ?_ ?_; rotate_left 3; (focus (simp only [List.getElem?_toArray, List.getElem?_cons_zero, List.getElem?_cons_succ]; rfl)); (focus (rw [hops.out]; rfl)); (focus (go_simp; constructor <;> with_reducible rfl)); (first | ((with_reducible refine (dsk_Image HTa.out.dw.dsk).mono ?_); rintro e w6 ⟨A6, c6, rfl, hr6, -, -, -, hb6⟩; have HR6 := Lib.hid hr6; have HTb := Lib.hid (HTa.out.fb hb6); have HF6 := Lib.hid hb6; clear hr6 hb6; refine ⟨_, rfl, HF6.out, ?_⟩; intro a' ha'; simp only [Act.put, List.setIfInBounds_toArray, List.set_cons_zero, List.set_cons_succ] at ha'; subst ha')))
            have hs1 := fun W (hw : FB w6 W) => run_string c6 (FB.rd hw HR6.out)
            rw [HLEN.out] at hs1
            repeat (refine sch_take (o := ?_) (v := ?_) (a' := ?_) (at_of hops.out ?_) ?_ (fun W hW => ?_) ?_ ?_; rotate_left 3; (focus (simp only [List.getElem?_toArray, List.getElem?_cons_zero, List.getElem?_cons_succ]; rfl)); (focus (rw [hops.out]; rfl)); (focus (have u1 := hs1 W hW; go_simp; with_reducible rfl)); (focus (simp only [Act.put, List.setIfInBounds_toArray, List.set_cons_zero, List.set_cons_succ]; rfl)))
            (refine sch_call (o := ?_) (f := ?_) (args := ?_) (at_of hops.out ?_) ?_ ?_ ?_; rotate_left 3; (focus (simp only [List.getElem?_toArray, List.getElem?_cons_zero, List.getElem?_cons_succ]; rfl)); (focus (rw [hops.out]; rfl)); (focus (go_simp; constructor <;> with_reducible rfl)); (first | ((with_reducible refine (ref_Image HTb.out.rd).mono ?_); rintro e w7 ⟨A7, c7, rfl, hr7, hb7⟩; have HR7 := Lib.hid hr7; have HTc := Lib.hid (HTb.out.fb hb7); have HF7 := Lib.hid hb7; clear hr7 hb7; refine ⟨_, rfl, HF7.out, ?_⟩; intro a' ha'; simp only [Act.put, List.setIfInBounds_toArray, List.set_cons_zero, List.set_cons_succ] at ha'; subst ha')))
            have hs2 := fun W (hw : FB w7 W) => run_string c7 (FB.rd hw HR7.out)
            rw [HLEN.out] at hs2
            generalize sb D.b = img at *
            repeat (refine sch_take (o := ?_) (v := ?_) (a' := ?_) (at_of hops.out ?_) ?_ (fun W hW => ?_) ?_ ?_; rotate_left 3; (focus (simp only [List.getElem?_toArray, List.getElem?_cons_zero, List.getElem?_cons_succ]; rfl)); (focus (rw [hops.out]; rfl)); (focus (have u1 := hs1 W (FB.trans HF7.out hW); have u2 := hs2 W hW; go_simp; with_reducible rfl)); (focus (simp only [Act.put, List.setIfInBounds_toArray, List.set_cons_zero, List.set_cons_succ]; rfl)))
            (refine sch_call (o := ?_) (f := ?_) (args := ?_) (at_of hops.out ?_) ?_ ?_ ?_; rotate_left 3; (focus (simp only [List.getElem?_toArray, List.getElem?_cons_zero, List.getElem?_cons_succ]; rfl)); (focus (rw [hops.out]; rfl)); (focus (go_simp; constructor <;> with_reducible rfl)); (first | ((with_reducible refine (dsk_Sectors HTc.out.dw.dsk).mono ?_); rintro e w8 ⟨rfl, rfl⟩; refine ⟨_, rfl, FB.refl _, ?_⟩; intro a' ha'; simp only [Act.put, List.setIfInBounds_toArray, List.set_cons_zero, List.set_cons_succ] at ha'; subst ha')))
            (refine sch_call (o := ?_) (f := ?_) (args := ?_) (at_of hops.out ?_) ?_ ?_ ?_; rotate_left 3; (focus (simp only [List.getElem?_toArray, List.getElem?_cons_zero, List.getElem?_cons_succ]; rfl)); (focus (rw [hops.out]; rfl)); (focus (go_simp; constructor <;> with_reducible rfl)); (first | ((with_reducible refine (ref_Sectors HTc.out.rd).mono ?_); rintro e w8 ⟨rfl, rfl⟩; refine ⟨_, rfl, FB.refl _, ?_⟩; intro a' ha'; simp only [Act.put, List.setIfInBounds_toArray, List.set_cons_zero, List.set_cons_succ] at ha'; subst ha')))
            repeat (refine sch_take (o := ?_) (v := ?_) (a' := ?_) (at_of hops.out ?_) ?_ (fun W hW => ?_) ?_ ?_; rotate_left 3; (focus (simp only [List.getElem?_toArray, List.getElem?_cons_zero, List.getElem?_cons_succ]; rfl)); (focus (rw [hops.out]; rfl)); (focus (go_simp; with_reducible rfl)); (focus (simp only [Act.put, List.setIfInBounds_toArray, List.set_cons_zero, List.set_cons_succ]; rfl)))
            refine sch_done ?_
            have HEND := Lib.hid HTc.out.dw.fb
            clear hops HF hs1 hs2
            go_wp2
            go_ret
            exact ⟨rfl, HEND.out⟩
theorem sectorScript_walk (s0 : Int) (A : Option Addr) (c : Nat) (l : List ActV) (w : World) (h0 : -9223372036854775808 ≤ s0 ∧ s0 ≤ 9223372036854775807) (hc : l.length ≤ c) (hm : c ≤ maxLen) (hr : RdActs w A l) (hok : ∀ a ∈ l, a.ok) :
    Calls Try.prog 5 #[.int .i64 s0, .slice A l.length c] w fun e w' => e = .returned (.bool true) ∧ Below w.heap.size w w' := sectorScript_w s0 A c l w hc hm hr hok
end Go.Proofs.Ytbedpjpddcjpkaa
