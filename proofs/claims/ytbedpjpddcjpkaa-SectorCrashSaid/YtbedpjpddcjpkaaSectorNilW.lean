/- The walk of SectorNil. -/
import Derived.Test.YtbedpjpddcjpkaaDskN
import Derived.Test.YtbedpjpddcjpkaaKit
import Derived.Test.YtbedpjpddcjpkaaRowC
set_option linter.unusedVariables false
set_option linter.unusedSimpArgs false
namespace Go.Proofs.Ytbedpjpddcjpkaa
open Go.ChangeShapes Go.WideShapes Go.ChangeAt Go.RowKit Go.MapKept
attribute [local go_sem] nb_nonneg nb_lt8

theorem box3 {w : World} {a b c : Value} {t : TypeId} {W : World} (h : FB (w.alloc (.cells #[a, b, c] t)) W) : W.heap[w.heap.size]? = some (.cells #[a, b, c] t (0, 0)) := by
  rw [h.block _ (by simp)]; exact heap_alloc_new _ _
set_option maxRecDepth 100000 in
set_option maxHeartbeats 2000000 in
theorem sectorNil_w (n : Int) (A : Option Addr) (c : Nat) (xs : List Byte) (KA : Option Addr) (kl kc : Nat) (torn bytes : Int) (w : World) (hc : xs.length ≤ c) (hm : xs.length ≤ 9223372036854775807) (hr : Rd w A xs) :
    Calls Try.prog 6 #[.int .i64 n, .slice A xs.length c, .agg #[.slice KA kl kc, .int .i64 torn, .int .i64 bytes]] w fun e w' => e = .returned (.bool true) ∧ FB w w' := by
  have HB0 := Lib.hid ((FB.refl w).alloc (.cells #[.slice KA kl kc, .int .i64 torn, .int .i64 bytes] 25))
  have HBX := Lib.hid (fun W (h : FB (w.alloc (.cells #[.slice KA kl kc, .int .i64 torn, .int .i64 bytes] 25)) W) => row3 (box3 h))
  have HR := Lib.hid hr
  clear hr
  go_enter Try.func6, Try.ntmps6
  go_wp2_with fail
  refine (sd_lives _).mono ?_
  rintro e w1 ⟨rfl, hb⟩
  have HB1 := Lib.hid hb
  have HF1 := Lib.hid (HB0.out.trans hb)
  obtain ⟨q0, q1, q2⟩ := HBX.out _ HB1.out
  clear hb
  by_cases hbig : (20480 : Int) < xs.length
  · go_wp2
    go_ret
    exact ⟨rfl, HF1.out⟩
  · go_wp2_with fail
    refine (kit_LightCrash KA kl kc torn bytes 100 _).mono ?_
    rintro e w2 ⟨rfl, hb⟩
    have HB2 := Lib.hid (HB1.out.trans hb)
    have HF2 := Lib.hid (HB0.out.trans HB2.out)
    clear hb q0 q1 q2
    by_cases hk : (kl : Int) ≤ 100
    · rw [show decide ((kl : Int) ≤ 100) = true from decide_eq_true hk]
      clear hk
      go_wp2_with fail
      refine (nil_Read n _).mono ?_
      rintro e w3 ⟨rfl, rfl⟩
      go_wp2_with fail
      refine (nil_Write n _ _).mono ?_
      rintro e w3 ⟨rfl, rfl⟩
      go_wp2_with fail
      refine (nil_Flush _).mono ?_
      rintro e w3 ⟨rfl, rfl⟩
      go_wp2_with fail
      refine (nil_Fail n _).mono ?_
      rintro e w3 ⟨rfl, hb⟩
      have HB3 := Lib.hid (HB2.out.trans hb)
      obtain ⟨q0, q1, q2⟩ := HBX.out _ HB3.out
      clear hb
      go_wp2_with fail
      refine (nil_Crash KA kl kc torn bytes _).mono ?_
      rintro e w4 ⟨rfl, hb⟩
      have HB4 := Lib.hid (HB3.out.trans hb)
      have HF4 := Lib.hid (HB0.out.trans HB4.out)
      clear hb q0 q1 q2
      go_wp2_with fail
      refine (nil_Sectors _).mono ?_
      rintro e w5 ⟨rfl, rfl⟩
      go_wp2_with fail
      refine (nil_Cached _).mono ?_
      rintro e w5 ⟨rfl, rfl⟩
      go_wp2_with fail
      refine (nil_Image _).mono ?_
      rintro e w5 ⟨rfl, rfl⟩
      have HR4 := Lib.hid (FB.rd HF4.out HR.out)
      go_wp2_with fail
      refine (kit_Own xs A c _ hc (by omega) HR4.out).mono ?_
      rintro e w5 ⟨A5, c5, rfl, ho, hb⟩
      have HO5 := Lib.hid (Own.info ho)
      have HF5 := Lib.hid (HF4.out.trans hb)
      clear ho hb
      by_cases hbad : xs.length / 512 < 1 ∨ 32768 < xs.length / 512 ∨ xs.length % 512 ≠ 0
      · go_wp2_with fail
        refine (dsk_Of_bad A5 xs.length c5 _ (by omega) hbad).mono ?_
        rintro e w6 ⟨rfl, rfl⟩
        by_cases h0 : ((xs.length : Int) == 0) = true
        · go_wp2
          go_ret
          exact ⟨rfl, HF5.out⟩
        · have h0' : ((xs.length : Int) == 0) = false := by simpa using h0
          have h0n : xs.length ≠ 0 := fun e => h0 (by rw [e]; rfl)
          have hmne : xs.length % 512 ≠ 0 := by omega
          have h1 : ((xs.length : Int) % 512 != 0) = true := by simp only [bne_iff_ne, ne_eq]; omega
          clear h0
          go_wp2
          go_ret
          exact ⟨rfl, HF5.out⟩
      · obtain ⟨k, hk⟩ : ∃ k, xs.length = 512 * k := ⟨xs.length / 512, by omega⟩
        have hk1 : 1 ≤ k := by omega
        have hk2 : k ≤ 40 := by omega
        have HK := Lib.hid hk
        clear hbad hk
        go_wp2_with fail
        refine (dsk_Of_ok k hk1 (by omega) A5 xs.length c5 xs _ HK.out HK.out HO5.out.2.2.1).mono ?_
        rintro e w6 ⟨F6, g6, rfl, hd, hb, hF⟩
        have HD6 := Lib.hid hd
        have HF6 := Lib.hid (HF5.out.trans hb)
        clear hd hb hF
        go_wp2_with fail
        obtain ⟨W0, hW0⟩ : ∃ W0 : World, W0 = w6 := ⟨_, rfl⟩
        subst hW0
        refine region_sch (E := FB) ((0, true) :: (3, true) :: (4, true) :: (1, false) :: (2, true) :: (5, true) :: (6, true) :: (7, true) :: (9, true) :: (10, true) :: (11, true) :: (8, false) :: (12, true) :: (13, true) :: (14, true) :: []) (by kernel_rfl) FB.refl fb_trans (fun _ _ d _ _ h => by cases d <;> exact h) (by kernel_rfl) ?_
        intro ops hops0
        have hops := Lib.hid hops0
        clear hops0
        have HF : FB W0 W0.drew := (FB.refl _).drew
        generalize W0.drew = wF at *
        have HD7 := Lib.hid (HD6.out.fb HF)
        have HR7 := Lib.hid (FB.rd (HF6.out.trans HF) HR.out)
        have hsx := fun W (hw : FB wF W) => run_string c (FB.rd hw HR7.out)
        repeat (refine sch_take (o := ?_) (v := ?_) (a' := ?_) (at_of hops.out ?_) ?_ (fun W hW => ?_) ?_ ?_; rotate_left 3; (focus (simp only [List.getElem?_toArray, List.getElem?_cons_zero, List.getElem?_cons_succ]; rfl)); (focus (rw [hops.out]; rfl)); (focus (have u1 := hsx W hW; go_simp; with_reducible rfl)); (focus (simp only [Act.put, List.setIfInBounds_toArray, List.set_cons_zero, List.set_cons_succ]; rfl)))
        (refine sch_call (o := ?_) (f := ?_) (args := ?_) (at_of hops.out ?_) ?_ ?_ ?_; rotate_left 3; (focus (simp only [List.getElem?_toArray, List.getElem?_cons_zero, List.getElem?_cons_succ]; rfl)); (focus (rw [hops.out]; rfl)); (focus (go_simp; constructor <;> with_reducible rfl)); (first | ((with_reducible refine (dsk_Image HD7.out).mono ?_); rintro e w7 ⟨A7, c7, rfl, hr7, -, -, -, hb⟩; have HR77 := Lib.hid hr7; have HF7 := Lib.hid hb; clear hr7; refine ⟨_, rfl, hb, ?_⟩; intro a' ha'; simp only [Act.put, List.setIfInBounds_toArray, List.set_cons_zero, List.set_cons_succ] at ha'; subst ha'; replace HF := HF.call hb; clear hb)))
        have hs7 := fun W (hw : FB w7 W) => run_string c7 (FB.rd hw HR77.out)
        simp only [HK.out] at hs7
        have HQ := Lib.hid (show (xs.length : Int).tdiv 512 = (k : Int) ∧ (xs.length : Int) / 512 = (k : Int) from ⟨by rw [Int.tdiv_eq_ediv_of_nonneg (by omega), HK.out]; omega, by rw [HK.out]; omega⟩)
        have HQW := Lib.hid (show IntKind.i64.wrap (k : Int) = (k : Int) from by rw [IntKind.wrap_i64]; omega)
        have HD8 := Lib.hid (HD7.out.fb HF7.out)
        repeat (refine sch_take (o := ?_) (v := ?_) (a' := ?_) (at_of hops.out ?_) ?_ (fun W hW => ?_) ?_ ?_; rotate_left 3; (focus (simp only [List.getElem?_toArray, List.getElem?_cons_zero, List.getElem?_cons_succ]; rfl)); (focus (rw [hops.out]; rfl)); (focus (have u1 := hsx W (FB.trans HF7.out hW); have u2 := hs7 W hW; have u3 := HQ.out.1; have u4 := HQ.out.2; have u5 := HQW.out; go_simp; with_reducible rfl)); (focus (simp only [Act.put, List.setIfInBounds_toArray, List.set_cons_zero, List.set_cons_succ]; rfl)))
        (refine sch_call (o := ?_) (f := ?_) (args := ?_) (at_of hops.out ?_) ?_ ?_ ?_; rotate_left 3; (focus (simp only [List.getElem?_toArray, List.getElem?_cons_zero, List.getElem?_cons_succ]; rfl)); (focus (rw [hops.out]; rfl)); (focus (go_simp; constructor <;> with_reducible rfl)); (first | ((with_reducible refine (dsk_Sectors HD8.out).mono ?_); rintro e w8 ⟨rfl, rfl⟩; refine ⟨_, rfl, FB.refl _, ?_⟩; intro a' ha'; simp only [Act.put, List.setIfInBounds_toArray, List.set_cons_zero, List.set_cons_succ] at ha'; subst ha')))
        repeat (refine sch_take (o := ?_) (v := ?_) (a' := ?_) (at_of hops.out ?_) ?_ (fun W hW => ?_) ?_ ?_; rotate_left 3; (focus (simp only [List.getElem?_toArray, List.getElem?_cons_zero, List.getElem?_cons_succ]; rfl)); (focus (rw [hops.out]; rfl)); (focus (have u1 := hsx W (FB.trans HF7.out hW); have u2 := hs7 W hW; have u3 := HQ.out.1; have u4 := HQ.out.2; have u5 := HQW.out; go_simp; with_reducible rfl)); (focus (simp only [Act.put, List.setIfInBounds_toArray, List.set_cons_zero, List.set_cons_succ]; rfl)))
        refine sch_done ?_
        have HEND := Lib.hid (HF6.out.trans HF)
        clear hsx hs7 hops HF
        go_wp2
        go_ret
        exact ⟨rfl, HEND.out⟩
    · rw [show decide ((kl : Int) ≤ 100) = false from decide_eq_false hk]
      clear hk
      go_wp2
      go_ret
      exact ⟨rfl, HF2.out⟩
theorem sectorNil_walk (n : Int) (A : Option Addr) (c : Nat) (xs : List Byte) (KA : Option Addr) (kc : Nat) (ks : List Bool) (torn bytes : Int) (w : World) (hn : -9223372036854775808 ≤ n ∧ n ≤ 9223372036854775807) (hc : xs.length ≤ c) (hm : c ≤ maxLen) (hr : Rd w A xs) (k1 : ks.length ≤ kc) (k2 : kc ≤ maxLen) (k3 : RdV w KA (ks.map .bool)) (k4 : -9223372036854775808 ≤ torn ∧ torn ≤ 9223372036854775807) (k5 : -9223372036854775808 ≤ bytes ∧ bytes ≤ 9223372036854775807) :
    Calls Try.prog 6 #[.int .i64 n, .slice A xs.length c, .agg #[.slice KA ks.length kc, .int .i64 torn, .int .i64 bytes]] w fun e w' => e = .returned (.bool true) ∧ Below w.heap.size w w' :=
  sectorNil_w n A c xs KA ks.length kc torn bytes w hc (by simp [maxLen] at hm; omega) hr
end Go.Proofs.Ytbedpjpddcjpkaa
