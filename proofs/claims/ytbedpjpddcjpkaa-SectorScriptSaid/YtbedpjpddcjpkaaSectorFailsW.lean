/- The walk of SectorFails. -/
import Derived.Test.YtbedpjpddcjpkaaDskR
import Derived.Test.YtbedpjpddcjpkaaActs
set_option linter.unusedVariables false
set_option linter.unusedSimpArgs false
namespace Go.Proofs.Ytbedpjpddcjpkaa
open Go.ChangeShapes Go.WideShapes Go.ChangeAt Go.RowKit Go.MapKept
attribute [local go_sem] nb_nonneg nb_lt8

theorem row8 {W : World} {g : Nat} {a b c d e f h i : Value} {t : TypeId} {fr : Nat × Nat} (hw : W.heap[g]? = some (.cells #[a, b, c, d, e, f, h, i] t fr)) :
    W.cell? ⟨g, 0, none⟩ = some a ∧ W.cell? ⟨g, 1, none⟩ = some b ∧ W.cell? ⟨g, 2, none⟩ = some c ∧ W.cell? ⟨g, 3, none⟩ = some d ∧ W.cell? ⟨g, 4, none⟩ = some e ∧ W.cell? ⟨g, 5, none⟩ = some f ∧ W.cell? ⟨g, 6, none⟩ = some h ∧ W.cell? ⟨g, 7, none⟩ = some i := by
  refine ⟨?_, ?_, ?_, ?_, ?_, ?_, ?_, ?_⟩ <;> (rw [cell_of_row _ _ _ _ _ _ hw]; rfl)
/-- The fuse, so many operations later. -/
def fuseN (after cnt : Nat) : Option Int := if cnt ≤ after then some ((after - cnt : Nat) : Int) else none
theorem ffail_fuseN (after cnt : Nat) : ffail (fuseN after cnt) = (decide (cnt = after), fuseN after (cnt + 1)) := by
  unfold fuseN ffail
  by_cases h : cnt ≤ after
  · rw [if_pos h]
    by_cases h2 : cnt = after
    · subst h2
      simp
    · rw [if_pos (show cnt + 1 ≤ after by omega)]
      have h3 : (0 : Int) < ((after - cnt : Nat) : Int) := by omega
      simp only [h3, if_true, h2, decide_false, Prod.mk.injEq, Option.some.injEq, true_and]
      omega
  · rw [if_neg h, if_neg (show ¬ cnt + 1 ≤ after by omega)]
    simp; omega
/-- What an operation leaves: it is not valid: nothing; it fails: the fuse; or it is done. -/
def OpLeft (may : Bool) (cnt after : Nat) (E : Int) (D D' : DiskSt) : Prop :=
  (may = false → E = 2 ∧ D' = D) ∧ (may = true → D'.fuse = fuseN after (cnt + 1) ∧ (cnt = after → E = 8 ∧ D'.b = D.b ∧ D'.M = D.M) ∧ (cnt ≠ after → E = 0))
theorem opLeft_read {D : DiskSt} {n : Nat} {k : Int} {cnt after : Nat} (hf : D.fuse = fuseN after cnt) : OpLeft (decide (0 ≤ k) && decide (k < n)) cnt after (sdRead D n k).2.1 D (sdRead D n k).2.2 := by
  unfold sdRead OpLeft
  rw [hf, ffail_fuseN]
  by_cases h : k < 0 ∨ (n : Int) ≤ k
  · rw [if_pos h]
    have : (decide (0 ≤ k) && decide (k < (n : Int))) = false := by simp only [Bool.and_eq_false_iff, decide_eq_false_iff_not]; omega
    rw [this]
    exact ⟨fun _ => ⟨rfl, rfl⟩, fun h => by cases h⟩
  · rw [if_neg h]
    have : (decide (0 ≤ k) && decide (k < (n : Int))) = true := by simp only [Bool.and_eq_true, decide_eq_true_eq]; omega
    rw [this]
    refine ⟨fun h => (by cases h), fun _ => ?_⟩
    by_cases e : cnt = after
    · simp [e]
    · simp [e]
theorem opLeft_write {D : DiskSt} {n : Nat} {k : Int} {xs : List Byte} {cnt after : Nat} (hf : D.fuse = fuseN after cnt) (hx : xs.length = 512) : OpLeft (decide (0 ≤ k) && decide (k < n)) cnt after (sdWrite D n k xs).1 D (sdWrite D n k xs).2 := by
  unfold sdWrite OpLeft
  rw [hf, ffail_fuseN]
  by_cases h : k < 0 ∨ (n : Int) ≤ k
  · rw [if_pos (by omega)]
    have : (decide (0 ≤ k) && decide (k < (n : Int))) = false := by simp only [Bool.and_eq_false_iff, decide_eq_false_iff_not]; omega
    rw [this]
    exact ⟨fun _ => ⟨rfl, rfl⟩, fun h => by cases h⟩
  · rw [if_neg (by omega)]
    have : (decide (0 ≤ k) && decide (k < (n : Int))) = true := by simp only [Bool.and_eq_true, decide_eq_true_eq]; omega
    rw [this]
    refine ⟨fun h => (by cases h), fun _ => ?_⟩
    by_cases e : cnt = after
    · simp [e]
    · simp [e]
theorem opLeft_flush {D : DiskSt} {cnt after : Nat} (hf : D.fuse = fuseN after cnt) : OpLeft true cnt after (sdFlush D).1 D (sdFlush D).2 := by
  unfold sdFlush OpLeft
  rw [hf, ffail_fuseN]
  refine ⟨fun h => (by cases h), fun _ => ?_⟩
  by_cases e : cnt = after
  · simp [e]
  · simp [e]
set_option maxRecDepth 100000 in
set_option maxHeartbeats 4000000 in
theorem sectorFails_w (s0 after0 : Int) (A : Option Addr) (c : Nat) (l : List ActV) (w : World) (hc : l.length ≤ c) (hm : c ≤ maxLen) (hr : RdActs w A l) (hok : ∀ a ∈ l, a.ok) :
    Calls Try.prog 7 #[.int .i64 s0, .int .i64 after0, .slice A l.length c] w fun e w' => e = .returned (.bool true) ∧ FB w w' := by
  have HR := Lib.hid hr
  have HCM := Lib.hid (And.intro hc hm)
  have HOKL := Lib.hid hok
  clear hr hc hm hok
  go_enter Try.func7, Try.ntmps7
  go_wp2_with fail
  refine (sd_lives _).mono ?_
  rintro e w1 ⟨rfl, hb⟩
  have HF1 := Lib.hid hb
  clear hb
  go_wp2_with fail
  refine (acts_small A l c _ HCM.out.1 HCM.out.2 (HR.out.fb HF1.out)).mono ?_
  rintro e w2 ⟨rfl, hb⟩
  have HF2 := Lib.hid (HF1.out.trans hb)
  clear hb
  cases hS : smallB l with
  | false =>
    clear hS
    go_wp2
    go_ret
    exact ⟨rfl, HF2.out⟩
  | true =>
    have hl80 : l.length ≤ 80 := by
      unfold smallB at hS
      simp only [Bool.and_eq_true, decide_eq_true_eq] at hS
      exact hS.1
    clear hS
    go_wp2_with fail
    refine (kit_Pick s0 40 _ (by omega) (by omega)).mono ?_
    rintro e w3 ⟨rfl, rfl⟩
    obtain ⟨hp1, hp2⟩ := pick_range s0 40 (by omega)
    obtain ⟨n1, hn1⟩ : ∃ n1 : Nat, pick s0 40 = (n1 : Int) := ⟨(pick s0 40).toNat, by omega⟩
    rw [hn1] at hp1 hp2 ⊢
    clear hn1
    have hn40 : n1 < 40 := by omega
    have hw1 : IntKind.i64.wrap (1 + (n1 : Int)) = ((n1 + 1 : Nat) : Int) := by rw [IntKind.wrap_i64]; omega
    go_wp2_with fail
    refine (kit_Pick after0 90 _ (by omega) (by omega)).mono ?_
    rintro e w3 ⟨rfl, rfl⟩
    obtain ⟨hq1, hq2⟩ := pick_range after0 90 (by omega)
    obtain ⟨after, hn1⟩ : ∃ n1 : Nat, pick after0 90 = (n1 : Int) := ⟨(pick after0 90).toNat, by omega⟩
    rw [hn1] at hq1 hq2 ⊢
    clear hn1
    obtain ⟨n, hn⟩ : ∃ n, n = n1 + 1 := ⟨_, rfl⟩
    rw [show (n1 : Int) + 1 = (n : Int) by omega]
    have hn0 : 1 ≤ n := by omega
    have hn2 : n ≤ 40 := by omega
    clear hp1 hp2 hn hn40 hq1
    go_wp2_with fail
    refine (dsk_New_ok n hn0 (by omega) _).mono ?_
    rintro e w3 ⟨F3, g, rfl, hd, hb, hF⟩
    have HD3 := Lib.hid (show DW w w3 F3 g n ⟨List.replicate (512 * n) 0#8, [], none⟩ from ⟨hd, HF2.out.trans hb, fun x hx => Nat.le_trans HF2.out.le (hF x hx)⟩)
    clear hd hb hF hw1
    go_wp2_with fail
    refine (dsk_Fail HD3.out.dsk (after : Int) (by omega)).mono ?_
    rintro e w4 ⟨rfl, hres⟩
    obtain ⟨F4, hd, -, -⟩ := HD3.out.res hres
    have HD4 := Lib.hid (show DW w w4 F4 g n ⟨List.replicate (512 * n) 0#8, [], fuseN after 0⟩ from by
      rw [if_pos (show (0 : Int) ≤ (after : Int) by omega)] at hd
      exact hd)
    clear hd hres
    go_wp2
    go_loopw [9, 10] (fun c9 c10 wr => ∃ (j cnt : Nat) (F : List Nat) (D : DiskSt), j ≤ l.length ∧ cnt ≤ j ∧ c9 = .int .i64 cnt ∧ c10 = .int .i64 j ∧ Hid (DW w wr F g n D) ∧ Hid (D.fuse = fuseN after cnt)) (fun _ c10 _ => l.length - (intOf c10).toNat)
    case atStart => exact ⟨0, 0, F4, _, by omega, by omega, rfl, rfl, HD4.out, rfl⟩
    case round =>
      obtain ⟨j, cnt, F, D, hj, hcnt, rfl, rfl, HD, HFU⟩ := hrel
      by_cases hlt : j < l.length
      · have hjx : (j : Int) < (l.length : Int) := by omega
        have hj80 : j < 80 := by omega
        obtain ⟨b, o, rfl, ha0⟩ := HR.out j hlt
        have HOKA := Lib.hid (HOKL.out _ (List.getElem_mem hlt))
        have ha := ha0.fb HD.out.fb
        generalize l[j] = a at *
        obtain ⟨K, At, V, B, N, KA, kc, ks, T, Y⟩ := a
        obtain ⟨c0, c1, c2, c3, c4, c5, c6, c7, -⟩ := ha
        simp only at c0 c1 c2 c3 c4 c5 c6 c7
        go_wp2_with fail
        have HDa := Lib.hid (HD.out.fbn ((FB.refl wr).alloc (.cells #[.int .i64 K, .int .i64 At, .int .u8 (nb V), .int .u8 (nb B), .int .i64 N, .slice KA ks.length kc, .int .i64 T, .int .i64 Y] 38)))
        have HRWa := Lib.hid (heap_alloc_new wr (.cells #[.int .i64 K, .int .i64 At, .int .u8 (nb V), .int .u8 (nb B), .int .i64 N, .slice KA ks.length kc, .int .i64 T, .int .i64 Y] 38))
        have HBN := Lib.hid (HD.out.notin (Nat.le_refl _))
        clear c0 c1 c2 c3 c4 c5 c6 c7
        generalize wr.alloc (.cells #[.int .i64 K, .int .i64 At, .int .u8 (nb V), .int .u8 (nb B), .int .i64 N, .slice KA ks.length kc, .int .i64 T, .int .i64 Y] 38) = wa at *
        refine (dsk_Cached HDa.out.dsk).mono ?_
        rintro e w5 ⟨A5, c5, rfl, hr, hb, hf⟩
        have HWAS5 := Lib.hid hr
        have HWN := Lib.hid (fun ad (ha : A5 = some ad) => HDa.out.notin (hf ad ha))
        have HD5 := Lib.hid (HDa.out.fbn hb)
        have HRW5 := Lib.hid ((hb.block _ (Array.getElem?_eq_some_iff.1 HRWa.out).1).trans HRWa.out)
        clear hr hb hf
        by_cases hca : cnt = after
        · have hce : ((cnt : Int) == (after : Int)) = true := by simp [hca]
          have HCE := Lib.hid hca
          clear hca
          go_wp2_with fail
          refine (dsk_Image HD5.out.dsk).mono ?_
          rintro e w6 ⟨A6, c6, rfl, hr6, -, -, -, hb⟩
          have HD6 := Lib.hid (HD5.out.fbn hb)
          have HRW6 := Lib.hid ((hb.block _ (Array.getElem?_eq_some_iff.1 HRW5.out).1).trans HRW5.out)
          have HWAS := Lib.hid (hb.rdV HWAS5.out)
          have hs6 := run_string c6 hr6
          rw [HD5.out.dsk.ok.len] at hs6
          obtain ⟨img, himg⟩ : ∃ img, img = sb D.b := ⟨_, rfl⟩
          rw [← himg] at hs6
          have HIMG := Lib.hid (fun _ : cnt = after => himg)
          clear hb hr6 himg
          obtain ⟨q0, q1, q2, q3, q4, q5, q6, q7⟩ := row8 HRW6.out
          go_wp2_with fail
          refine (kit_Pick K 4 _ (by omega) (by omega)).mono ?_
          rintro e w7 ⟨rfl, rfl⟩
          clear q0 q1 q2 q3 q4 q5 q6 q7
          generalize pick K 4 = p
          by_cases hp0 : p = 0
          · subst hp0
            obtain ⟨q0, q1, q2, q3, q4, q5, q6, q7⟩ := row8 HRW6.out
            have HOP := Lib.hid (opLeft_read (n := n) (k := At) HFU.out)
            go_wp2_with fail
            refine (dsk_Read HD6.out.dsk At).mono ?_
            rintro e w7 ⟨A7, c7, rfl, -, -, hd, ht, -, -⟩
            have HD7 := Lib.hid (HD6.out.ts hd ht)
            have HRW7 := Lib.hid ((ht.block wr.heap.size (Array.getElem?_eq_some_iff.1 HRW6.out).1 HBN.out).trans HRW6.out)
            have HWAS7 := Lib.hid (RdV.move HWAS.out fun a v e hc => ht.cell hc (by
              cases A5 with
              | none => cases e
              | some ad => simp at e; have := HWN.out ad rfl; rw [← e]; exact this))
            obtain ⟨F7, hF7⟩ : ∃ F7, F7 = F := ⟨_, rfl⟩
            rw [← hF7] at HD7
            clear hd ht q0 q1 q2 q3 q4 q5 q6 q7 hF7
            generalize (sdRead D n At).1.length = L7
            generalize (sdRead D n At).2.1 = E at *
            generalize (sdRead D n At).2.2 = D' at *
            obtain ⟨q0, q1, q2, q3, q4, q5, q6, q7⟩ := row8 HRW7.out
            by_cases ha0 : 0 ≤ At
            · by_cases ha1 : At < (n : Int)
              · rw [show (decide (0 ≤ At) && decide (At < (n : Int))) = true from by simp only [Bool.and_eq_true, decide_eq_true_eq]; exact ⟨ha0, ha1⟩] at HOP
                obtain ⟨hfu7, hopa, hopb⟩ := HOP.out.2 rfl
                have HFU7 := Lib.hid hfu7
                clear HOP hfu7
                by_cases hca : cnt = after
                · first
                  | exact absurd hca HCE.out
                  | (
                    obtain ⟨rfl, hb7, hm7⟩ := hopa hca
                    have hce2 : ((cnt : Int) == (after : Int)) = true := by simp [hca]
                    have HB7 := Lib.hid hb7
                    have HM7 := Lib.hid hm7
                    have HIM := Lib.hid (HIMG.out hca)
                    clear hopb hopa hb7 hm7 hca
                    go_wp2_with fail
                    refine (dsk_Cached HD7.out.dsk).mono ?_
                    rintro e w8 ⟨A8, c8, rfl, hr8, hb8, -⟩
                    have HD8 := Lib.hid (HD7.out.fbn hb8)
                    rw [HM7.out] at hr8 ⊢
                    have HML := Lib.hid (show (D.M.map (·.1)).length ≤ 1000000000 from by rw [List.length_map]; have := HD6.out.dsk.mlen; omega)
                    have HR8 := Lib.hid hr8
                    have HW8 := Lib.hid (hb8.rdV HWAS7.out)
                    clear hr8 hb8
                    go_wp2_with fail
                    refine (kit_Ints (D.M.map (·.1)) (D.M.map (·.1)) A5 A8 _ _ c5 c8 _ (by rw [List.length_map]) (by rw [List.length_map]) HML.out HML.out HW8.out HR8.out).mono ?_
                    rintro e w9 ⟨rfl, hb⟩
                    have HD9 := Lib.hid (HD8.out.fbn hb)
                    rw [decide_eq_true (rfl : D.M.map (·.1) = D.M.map (·.1))]
                    clear hb
                    go_wp2_with fail
                    refine (dsk_Image HD9.out.dsk).mono ?_
                    rintro e w10 ⟨A10, c10, rfl, hr10, -, -, -, hb⟩
                    have HD10 := Lib.hid (HD9.out.fbn hb)
                    have hs10 := run_string c10 hr10
                    rw [HD9.out.dsk.ok.len, HB7.out] at hs10
                    have himg : img = sb D.b := HIM.out
                    rw [himg]
                    clear hb hr10 himg
                    go_wp2
                    go_roundw
                    case rel => exact ⟨j + 1, cnt + 1, F7, _, by omega, by omega, by go_num, by go_num, HD10.out, HFU7.out⟩
                    case measure => simp [intOf]; omega)
                · first
                  | exact absurd HCE.out hca
                  | (
                    obtain rfl := hopb hca
                    have hce2 : ((cnt : Int) == (after : Int)) = false := by simp; omega
                    clear hopb hopa hca
                    go_wp2
                    go_roundw
                    case rel => exact ⟨j + 1, cnt + 1, F7, _, by omega, by omega, by go_num, by go_num, HD7.out, HFU7.out⟩
                    case measure => simp [intOf]; omega)
              · rw [show (decide (0 ≤ At) && decide (At < (n : Int))) = false from by simp only [Bool.and_eq_false_iff, decide_eq_false_iff_not]; exact .inr ha1] at HOP
                have hd1 : decide (At < (n : Int)) = false := decide_eq_false ha1
                obtain ⟨rfl, rfl⟩ := HOP.out.1 rfl
                clear HOP
                have HFU7 := Lib.hid HFU.out
                go_wp2
                go_roundw
                case rel => exact ⟨j + 1, cnt, F7, _, by omega, by omega, rfl, by go_num, HD7.out, HFU7.out⟩
                case measure => simp [intOf]; omega
            · rw [show (decide (0 ≤ At) && decide (At < (n : Int))) = false from by simp only [Bool.and_eq_false_iff, decide_eq_false_iff_not]; exact .inl ha0] at HOP
              obtain ⟨rfl, rfl⟩ := HOP.out.1 rfl
              clear HOP
              have HFU7 := Lib.hid HFU.out
              go_wp2
              go_roundw
              case rel => exact ⟨j + 1, cnt, F7, _, by omega, by omega, rfl, by go_num, HD7.out, HFU7.out⟩
              case measure => simp [intOf]; omega
          · by_cases hp3 : p = 3
            · subst hp3
              have HOP := Lib.hid (opLeft_flush HFU.out)
              clear hp0
              go_wp2_with fail
              refine (dsk_Flush HD6.out.dsk).mono ?_
              rintro e w7 ⟨rfl, hd, ht⟩
              have HD7 := Lib.hid (HD6.out.ts hd ht)
              have HWAS7 := Lib.hid (RdV.move HWAS.out fun a v e hc => ht.cell hc (by
                cases A5 with
                | none => cases e
                | some ad => simp at e; have := HWN.out ad rfl; rw [← e]; exact this))
              obtain ⟨F7, hF7⟩ : ∃ F7, F7 = F := ⟨_, rfl⟩
              rw [← hF7] at HD7
              clear hd ht hF7
              generalize (sdFlush D).1 = E at *
              generalize (sdFlush D).2 = D' at *
              obtain ⟨hfu7, hopa, hopb⟩ := HOP.out.2 rfl
              have HFU7 := Lib.hid hfu7
              clear HOP hfu7
              by_cases hca : cnt = after
              · first
                | exact absurd hca HCE.out
                | (
                  obtain ⟨rfl, hb7, hm7⟩ := hopa hca
                  have hce2 : ((cnt : Int) == (after : Int)) = true := by simp [hca]
                  have HB7 := Lib.hid hb7
                  have HM7 := Lib.hid hm7
                  have HIM := Lib.hid (HIMG.out hca)
                  clear hopb hopa hb7 hm7 hca
                  go_wp2_with fail
                  refine (dsk_Cached HD7.out.dsk).mono ?_
                  rintro e w8 ⟨A8, c8, rfl, hr8, hb8, -⟩
                  have HD8 := Lib.hid (HD7.out.fbn hb8)
                  rw [HM7.out] at hr8 ⊢
                  have HML := Lib.hid (show (D.M.map (·.1)).length ≤ 1000000000 from by rw [List.length_map]; have := HD6.out.dsk.mlen; omega)
                  have HR8 := Lib.hid hr8
                  have HW8 := Lib.hid (hb8.rdV HWAS7.out)
                  clear hr8 hb8
                  go_wp2_with fail
                  refine (kit_Ints (D.M.map (·.1)) (D.M.map (·.1)) A5 A8 _ _ c5 c8 _ (by rw [List.length_map]) (by rw [List.length_map]) HML.out HML.out HW8.out HR8.out).mono ?_
                  rintro e w9 ⟨rfl, hb⟩
                  have HD9 := Lib.hid (HD8.out.fbn hb)
                  rw [decide_eq_true (rfl : D.M.map (·.1) = D.M.map (·.1))]
                  clear hb
                  go_wp2_with fail
                  refine (dsk_Image HD9.out.dsk).mono ?_
                  rintro e w10 ⟨A10, c10, rfl, hr10, -, -, -, hb⟩
                  have HD10 := Lib.hid (HD9.out.fbn hb)
                  have hs10 := run_string c10 hr10
                  rw [HD9.out.dsk.ok.len, HB7.out] at hs10
                  have himg : img = sb D.b := HIM.out
                  rw [himg]
                  clear hb hr10 himg
                  go_wp2
                  go_roundw
                  case rel => exact ⟨j + 1, cnt + 1, F7, _, by omega, by omega, by go_num, by go_num, HD10.out, HFU7.out⟩
                  case measure => simp [intOf]; omega)
              · first
                | exact absurd HCE.out hca
                | (
                  obtain rfl := hopb hca
                  have hce2 : ((cnt : Int) == (after : Int)) = false := by simp; omega
                  clear hopb hopa hca
                  go_wp2
                  go_roundw
                  case rel => exact ⟨j + 1, cnt + 1, F7, _, by omega, by omega, by go_num, by go_num, HD7.out, HFU7.out⟩
                  case measure => simp [intOf]; omega)
            · have hb0 : (p == 0) = false := by simpa using hp0
              have hb3 : (p == 3) = false := by simpa using hp3
              have HOP := Lib.hid (opLeft_write (n := n) (k := At) (xs := actRow V B) HFU.out (actRow_len V B))
              clear hp0 hp3
              go_wp2_with fail
              obtain ⟨W6, hW6⟩ : ∃ W6 : World, W6 = w6 := ⟨_, rfl⟩
              subst hW6
              refine region_sch (E := TS (F)) ((0, true) :: (1, true) :: (2, true) :: (3, true) :: (4, false) :: (5, false) :: (6, true) :: []) (by kernel_rfl) (TS.refl _) (fun _ _ _ h k => TS.then h k) (fun _ _ d _ _ h => by cases d <;> exact h) (by kernel_rfl) ?_
              intro ops hops0
              have hops := Lib.hid hops0
              clear hops0
              have HF : TS (F) W6 W6.drew := TS.of (FB.refl _).drew
              have HD : FB W6 W6.drew := (FB.refl _).drew
              generalize W6.drew = wF6 at *
              have HDA := Lib.hid (HD6.out.fbn HD)
              have HRWA := Lib.hid ((HD.block wr.heap.size (Array.getElem?_eq_some_iff.1 HRW6.out).1).trans HRW6.out)
              have HWASA := Lib.hid (HD.rdV HWAS.out)
              repeat (refine sch_take (o := ?_) (v := ?_) (a' := ?_) (at_of hops.out ?_) ?_ (fun W hW => ?_) ?_ ?_; rotate_left 3; (focus (simp only [List.getElem?_toArray, List.getElem?_cons_zero, List.getElem?_cons_succ]; rfl)); (focus (rw [hops.out]; rfl)); (focus (obtain ⟨q0, q1, q2, q3, q4, q5, q6, q7⟩ := row8 ((hW.block wr.heap.size (Array.getElem?_eq_some_iff.1 HRWA.out).1 HBN.out).trans HRWA.out); go_simp; with_reducible rfl)); (focus (simp only [Act.put, List.setIfInBounds_toArray, List.set_cons_zero, List.set_cons_succ]; rfl)))
              (refine sch_call (o := ?_) (f := ?_) (args := ?_) (at_of hops.out ?_) ?_ ?_ ?_; rotate_left 3; (focus (simp only [List.getElem?_toArray, List.getElem?_cons_zero, List.getElem?_cons_succ]; rfl)); (focus (rw [hops.out]; rfl)); (focus (go_simp; constructor <;> with_reducible rfl)); (first | ((with_reducible refine (act_bytes ⟨K, At, V, B, N, KA, kc, ks, T, Y⟩ _).mono ?_); rintro e wB ⟨AB, rfl, hoB, hbB⟩; have HOB := Lib.hid (Own.info hoB); have HFBB := Lib.hid hbB; clear hoB hbB; refine ⟨_, rfl, TS.of HFBB.out, ?_⟩; intro a' ha'; simp only [Act.put, List.setIfInBounds_toArray, List.set_cons_zero, List.set_cons_succ] at ha'; subst ha')))
              have HDB := Lib.hid (HDA.out.fbn HFBB.out)
              (refine sch_call (o := ?_) (f := ?_) (args := ?_) (at_of hops.out ?_) ?_ ?_ ?_; rotate_left 3; (focus (simp only [List.getElem?_toArray, List.getElem?_cons_zero, List.getElem?_cons_succ]; rfl)); (focus (rw [hops.out]; rfl)); (focus (go_simp; constructor <;> with_reducible rfl)); (first | ((with_reducible refine (dsk_Write HDB.out.dsk At AB 512 512 (actRow V B) (actRow_len V B).symm (by rw [actRow_len]; omega) HOB.out.2.2.1 (fun ad ha => HDA.out.notin (HOB.out.2.2.2.2 ad ha).1)).mono ?_); rintro e w7 ⟨rfl, hres⟩; obtain ⟨F7, hd7, ht7, -⟩ := HDB.out.res hres; have HD7 := Lib.hid hd7; have HT7 := Lib.hid ht7; clear hd7 ht7 hres; refine ⟨_, rfl, HT7.out, ?_⟩; intro a' ha'; simp only [Act.put, List.setIfInBounds_toArray, List.set_cons_zero, List.set_cons_succ] at ha'; subst ha')))
              repeat (refine sch_take (o := ?_) (v := ?_) (a' := ?_) (at_of hops.out ?_) ?_ (fun W hW => ?_) ?_ ?_; rotate_left 3; (focus (simp only [List.getElem?_toArray, List.getElem?_cons_zero, List.getElem?_cons_succ]; rfl)); (focus (rw [hops.out]; rfl)); (focus (go_simp; with_reducible rfl)); (focus (simp only [Act.put, List.setIfInBounds_toArray, List.set_cons_zero, List.set_cons_succ]; rfl)))
              refine sch_done ?_
              have HRWB := Lib.hid ((HFBB.out.block wr.heap.size (Array.getElem?_eq_some_iff.1 HRWA.out).1).trans HRWA.out)
              have HRW7 := Lib.hid ((HT7.out.block wr.heap.size (Array.getElem?_eq_some_iff.1 HRWB.out).1 HBN.out).trans HRWB.out)
              have HWASB := Lib.hid (HFBB.out.rdV HWASA.out)
              have HWAS7 := Lib.hid (RdV.move HWASB.out fun a v e hc => HT7.out.cell hc (by
                cases A5 with
                | none => cases e
                | some ad => simp at e; have := HWN.out ad rfl; rw [← e]; exact this))
              clear hops HF HD
              generalize (sdWrite D n At (actRow V B)).1 = E at *
              generalize (sdWrite D n At (actRow V B)).2 = D' at *
              obtain ⟨q0, q1, q2, q3, q4, q5, q6, q7⟩ := row8 HRW7.out
              by_cases ha0 : 0 ≤ At
              · by_cases ha1 : At < (n : Int)
                · rw [show (decide (0 ≤ At) && decide (At < (n : Int))) = true from by simp only [Bool.and_eq_true, decide_eq_true_eq]; exact ⟨ha0, ha1⟩] at HOP
                  obtain ⟨hfu7, hopa, hopb⟩ := HOP.out.2 rfl
                  have HFU7 := Lib.hid hfu7
                  clear HOP hfu7
                  by_cases hca : cnt = after
                  · first
                    | exact absurd hca HCE.out
                    | (
                      obtain ⟨rfl, hb7, hm7⟩ := hopa hca
                      have hce2 : ((cnt : Int) == (after : Int)) = true := by simp [hca]
                      have HB7 := Lib.hid hb7
                      have HM7 := Lib.hid hm7
                      have HIM := Lib.hid (HIMG.out hca)
                      clear hopb hopa hb7 hm7 hca
                      go_wp2_with fail
                      refine (dsk_Cached HD7.out.dsk).mono ?_
                      rintro e w8 ⟨A8, c8, rfl, hr8, hb8, -⟩
                      have HD8 := Lib.hid (HD7.out.fbn hb8)
                      rw [HM7.out] at hr8 ⊢
                      have HML := Lib.hid (show (D.M.map (·.1)).length ≤ 1000000000 from by rw [List.length_map]; have := HD6.out.dsk.mlen; omega)
                      have HR8 := Lib.hid hr8
                      have HW8 := Lib.hid (hb8.rdV HWAS7.out)
                      clear hr8 hb8
                      go_wp2_with fail
                      refine (kit_Ints (D.M.map (·.1)) (D.M.map (·.1)) A5 A8 _ _ c5 c8 _ (by rw [List.length_map]) (by rw [List.length_map]) HML.out HML.out HW8.out HR8.out).mono ?_
                      rintro e w9 ⟨rfl, hb⟩
                      have HD9 := Lib.hid (HD8.out.fbn hb)
                      rw [decide_eq_true (rfl : D.M.map (·.1) = D.M.map (·.1))]
                      clear hb
                      go_wp2_with fail
                      refine (dsk_Image HD9.out.dsk).mono ?_
                      rintro e w10 ⟨A10, c10, rfl, hr10, -, -, -, hb⟩
                      have HD10 := Lib.hid (HD9.out.fbn hb)
                      have hs10 := run_string c10 hr10
                      rw [HD9.out.dsk.ok.len, HB7.out] at hs10
                      have himg : img = sb D.b := HIM.out
                      rw [himg]
                      clear hb hr10 himg
                      go_wp2
                      go_roundw
                      case rel => exact ⟨j + 1, cnt + 1, F7, _, by omega, by omega, by go_num, by go_num, HD10.out, HFU7.out⟩
                      case measure => simp [intOf]; omega)
                  · first
                    | exact absurd HCE.out hca
                    | (
                      obtain rfl := hopb hca
                      have hce2 : ((cnt : Int) == (after : Int)) = false := by simp; omega
                      clear hopb hopa hca
                      go_wp2
                      go_roundw
                      case rel => exact ⟨j + 1, cnt + 1, F7, _, by omega, by omega, by go_num, by go_num, HD7.out, HFU7.out⟩
                      case measure => simp [intOf]; omega)
                · rw [show (decide (0 ≤ At) && decide (At < (n : Int))) = false from by simp only [Bool.and_eq_false_iff, decide_eq_false_iff_not]; exact .inr ha1] at HOP
                  have hd1 : decide (At < (n : Int)) = false := decide_eq_false ha1
                  obtain ⟨rfl, rfl⟩ := HOP.out.1 rfl
                  clear HOP
                  have HFU7 := Lib.hid HFU.out
                  go_wp2
                  go_roundw
                  case rel => exact ⟨j + 1, cnt, F7, _, by omega, by omega, rfl, by go_num, HD7.out, HFU7.out⟩
                  case measure => simp [intOf]; omega
              · rw [show (decide (0 ≤ At) && decide (At < (n : Int))) = false from by simp only [Bool.and_eq_false_iff, decide_eq_false_iff_not]; exact .inl ha0] at HOP
                obtain ⟨rfl, rfl⟩ := HOP.out.1 rfl
                clear HOP
                have HFU7 := Lib.hid HFU.out
                go_wp2
                go_roundw
                case rel => exact ⟨j + 1, cnt, F7, _, by omega, by omega, rfl, by go_num, HD7.out, HFU7.out⟩
                case measure => simp [intOf]; omega
        · have hce : ((cnt : Int) == (after : Int)) = false := by simp; omega
          have HCE := Lib.hid hca
          clear hca
          obtain ⟨w6, hw6⟩ : ∃ w6 : World, w6 = w5 := ⟨_, rfl⟩
          subst hw6
          have HD6 := Lib.hid HD5.out
          have HRW6 := Lib.hid HRW5.out
          have HWAS := Lib.hid HWAS5.out
          obtain ⟨q0, q1, q2, q3, q4, q5, q6, q7⟩ := row8 HRW6.out
          go_wp2_with fail
          refine (kit_Pick K 4 _ (by omega) (by omega)).mono ?_
          rintro e w7 ⟨rfl, rfl⟩
          clear q0 q1 q2 q3 q4 q5 q6 q7
          generalize pick K 4 = p
          by_cases hp0 : p = 0
          · subst hp0
            obtain ⟨q0, q1, q2, q3, q4, q5, q6, q7⟩ := row8 HRW6.out
            have HOP := Lib.hid (opLeft_read (n := n) (k := At) HFU.out)
            go_wp2_with fail
            refine (dsk_Read HD6.out.dsk At).mono ?_
            rintro e w7 ⟨A7, c7, rfl, -, -, hd, ht, -, -⟩
            have HD7 := Lib.hid (HD6.out.ts hd ht)
            have HRW7 := Lib.hid ((ht.block wr.heap.size (Array.getElem?_eq_some_iff.1 HRW6.out).1 HBN.out).trans HRW6.out)
            have HWAS7 := Lib.hid (RdV.move HWAS.out fun a v e hc => ht.cell hc (by
              cases A5 with
              | none => cases e
              | some ad => simp at e; have := HWN.out ad rfl; rw [← e]; exact this))
            obtain ⟨F7, hF7⟩ : ∃ F7, F7 = F := ⟨_, rfl⟩
            rw [← hF7] at HD7
            clear hd ht q0 q1 q2 q3 q4 q5 q6 q7 hF7
            generalize (sdRead D n At).1.length = L7
            generalize (sdRead D n At).2.1 = E at *
            generalize (sdRead D n At).2.2 = D' at *
            obtain ⟨q0, q1, q2, q3, q4, q5, q6, q7⟩ := row8 HRW7.out
            by_cases ha0 : 0 ≤ At
            · by_cases ha1 : At < (n : Int)
              · rw [show (decide (0 ≤ At) && decide (At < (n : Int))) = true from by simp only [Bool.and_eq_true, decide_eq_true_eq]; exact ⟨ha0, ha1⟩] at HOP
                obtain ⟨hfu7, hopa, hopb⟩ := HOP.out.2 rfl
                have HFU7 := Lib.hid hfu7
                clear HOP hfu7
                by_cases hca : cnt = after
                · first
                  | exact absurd hca HCE.out
                  | (
                    obtain ⟨rfl, hb7, hm7⟩ := hopa hca
                    have hce2 : ((cnt : Int) == (after : Int)) = true := by simp [hca]
                    have HB7 := Lib.hid hb7
                    have HM7 := Lib.hid hm7
                    have HIM := Lib.hid (HIMG.out hca)
                    clear hopb hopa hb7 hm7 hca
                    go_wp2_with fail
                    refine (dsk_Cached HD7.out.dsk).mono ?_
                    rintro e w8 ⟨A8, c8, rfl, hr8, hb8, -⟩
                    have HD8 := Lib.hid (HD7.out.fbn hb8)
                    rw [HM7.out] at hr8 ⊢
                    have HML := Lib.hid (show (D.M.map (·.1)).length ≤ 1000000000 from by rw [List.length_map]; have := HD6.out.dsk.mlen; omega)
                    have HR8 := Lib.hid hr8
                    have HW8 := Lib.hid (hb8.rdV HWAS7.out)
                    clear hr8 hb8
                    go_wp2_with fail
                    refine (kit_Ints (D.M.map (·.1)) (D.M.map (·.1)) A5 A8 _ _ c5 c8 _ (by rw [List.length_map]) (by rw [List.length_map]) HML.out HML.out HW8.out HR8.out).mono ?_
                    rintro e w9 ⟨rfl, hb⟩
                    have HD9 := Lib.hid (HD8.out.fbn hb)
                    rw [decide_eq_true (rfl : D.M.map (·.1) = D.M.map (·.1))]
                    clear hb
                    go_wp2_with fail
                    refine (dsk_Image HD9.out.dsk).mono ?_
                    rintro e w10 ⟨A10, c10, rfl, hr10, -, -, -, hb⟩
                    have HD10 := Lib.hid (HD9.out.fbn hb)
                    have hs10 := run_string c10 hr10
                    rw [HD9.out.dsk.ok.len, HB7.out] at hs10
                    have himg : img = sb D.b := HIM.out
                    rw [himg]
                    clear hb hr10 himg
                    go_wp2
                    go_roundw
                    case rel => exact ⟨j + 1, cnt + 1, F7, _, by omega, by omega, by go_num, by go_num, HD10.out, HFU7.out⟩
                    case measure => simp [intOf]; omega)
                · first
                  | exact absurd HCE.out hca
                  | (
                    obtain rfl := hopb hca
                    have hce2 : ((cnt : Int) == (after : Int)) = false := by simp; omega
                    clear hopb hopa hca
                    go_wp2
                    go_roundw
                    case rel => exact ⟨j + 1, cnt + 1, F7, _, by omega, by omega, by go_num, by go_num, HD7.out, HFU7.out⟩
                    case measure => simp [intOf]; omega)
              · rw [show (decide (0 ≤ At) && decide (At < (n : Int))) = false from by simp only [Bool.and_eq_false_iff, decide_eq_false_iff_not]; exact .inr ha1] at HOP
                have hd1 : decide (At < (n : Int)) = false := decide_eq_false ha1
                obtain ⟨rfl, rfl⟩ := HOP.out.1 rfl
                clear HOP
                have HFU7 := Lib.hid HFU.out
                go_wp2
                go_roundw
                case rel => exact ⟨j + 1, cnt, F7, _, by omega, by omega, rfl, by go_num, HD7.out, HFU7.out⟩
                case measure => simp [intOf]; omega
            · rw [show (decide (0 ≤ At) && decide (At < (n : Int))) = false from by simp only [Bool.and_eq_false_iff, decide_eq_false_iff_not]; exact .inl ha0] at HOP
              obtain ⟨rfl, rfl⟩ := HOP.out.1 rfl
              clear HOP
              have HFU7 := Lib.hid HFU.out
              go_wp2
              go_roundw
              case rel => exact ⟨j + 1, cnt, F7, _, by omega, by omega, rfl, by go_num, HD7.out, HFU7.out⟩
              case measure => simp [intOf]; omega
          · by_cases hp3 : p = 3
            · subst hp3
              have HOP := Lib.hid (opLeft_flush HFU.out)
              clear hp0
              go_wp2_with fail
              refine (dsk_Flush HD6.out.dsk).mono ?_
              rintro e w7 ⟨rfl, hd, ht⟩
              have HD7 := Lib.hid (HD6.out.ts hd ht)
              have HWAS7 := Lib.hid (RdV.move HWAS.out fun a v e hc => ht.cell hc (by
                cases A5 with
                | none => cases e
                | some ad => simp at e; have := HWN.out ad rfl; rw [← e]; exact this))
              obtain ⟨F7, hF7⟩ : ∃ F7, F7 = F := ⟨_, rfl⟩
              rw [← hF7] at HD7
              clear hd ht hF7
              generalize (sdFlush D).1 = E at *
              generalize (sdFlush D).2 = D' at *
              obtain ⟨hfu7, hopa, hopb⟩ := HOP.out.2 rfl
              have HFU7 := Lib.hid hfu7
              clear HOP hfu7
              by_cases hca : cnt = after
              · first
                | exact absurd hca HCE.out
                | (
                  obtain ⟨rfl, hb7, hm7⟩ := hopa hca
                  have hce2 : ((cnt : Int) == (after : Int)) = true := by simp [hca]
                  have HB7 := Lib.hid hb7
                  have HM7 := Lib.hid hm7
                  have HIM := Lib.hid (HIMG.out hca)
                  clear hopb hopa hb7 hm7 hca
                  go_wp2_with fail
                  refine (dsk_Cached HD7.out.dsk).mono ?_
                  rintro e w8 ⟨A8, c8, rfl, hr8, hb8, -⟩
                  have HD8 := Lib.hid (HD7.out.fbn hb8)
                  rw [HM7.out] at hr8 ⊢
                  have HML := Lib.hid (show (D.M.map (·.1)).length ≤ 1000000000 from by rw [List.length_map]; have := HD6.out.dsk.mlen; omega)
                  have HR8 := Lib.hid hr8
                  have HW8 := Lib.hid (hb8.rdV HWAS7.out)
                  clear hr8 hb8
                  go_wp2_with fail
                  refine (kit_Ints (D.M.map (·.1)) (D.M.map (·.1)) A5 A8 _ _ c5 c8 _ (by rw [List.length_map]) (by rw [List.length_map]) HML.out HML.out HW8.out HR8.out).mono ?_
                  rintro e w9 ⟨rfl, hb⟩
                  have HD9 := Lib.hid (HD8.out.fbn hb)
                  rw [decide_eq_true (rfl : D.M.map (·.1) = D.M.map (·.1))]
                  clear hb
                  go_wp2_with fail
                  refine (dsk_Image HD9.out.dsk).mono ?_
                  rintro e w10 ⟨A10, c10, rfl, hr10, -, -, -, hb⟩
                  have HD10 := Lib.hid (HD9.out.fbn hb)
                  have hs10 := run_string c10 hr10
                  rw [HD9.out.dsk.ok.len, HB7.out] at hs10
                  have himg : img = sb D.b := HIM.out
                  rw [himg]
                  clear hb hr10 himg
                  go_wp2
                  go_roundw
                  case rel => exact ⟨j + 1, cnt + 1, F7, _, by omega, by omega, by go_num, by go_num, HD10.out, HFU7.out⟩
                  case measure => simp [intOf]; omega)
              · first
                | exact absurd HCE.out hca
                | (
                  obtain rfl := hopb hca
                  have hce2 : ((cnt : Int) == (after : Int)) = false := by simp; omega
                  clear hopb hopa hca
                  go_wp2
                  go_roundw
                  case rel => exact ⟨j + 1, cnt + 1, F7, _, by omega, by omega, by go_num, by go_num, HD7.out, HFU7.out⟩
                  case measure => simp [intOf]; omega)
            · have hb0 : (p == 0) = false := by simpa using hp0
              have hb3 : (p == 3) = false := by simpa using hp3
              have HOP := Lib.hid (opLeft_write (n := n) (k := At) (xs := actRow V B) HFU.out (actRow_len V B))
              clear hp0 hp3
              go_wp2_with fail
              obtain ⟨W6, hW6⟩ : ∃ W6 : World, W6 = w6 := ⟨_, rfl⟩
              subst hW6
              refine region_sch (E := TS (F)) ((0, true) :: (1, true) :: (2, true) :: (3, true) :: (4, false) :: (5, false) :: (6, true) :: []) (by kernel_rfl) (TS.refl _) (fun _ _ _ h k => TS.then h k) (fun _ _ d _ _ h => by cases d <;> exact h) (by kernel_rfl) ?_
              intro ops hops0
              have hops := Lib.hid hops0
              clear hops0
              have HF : TS (F) W6 W6.drew := TS.of (FB.refl _).drew
              have HD : FB W6 W6.drew := (FB.refl _).drew
              generalize W6.drew = wF6 at *
              have HDA := Lib.hid (HD6.out.fbn HD)
              have HRWA := Lib.hid ((HD.block wr.heap.size (Array.getElem?_eq_some_iff.1 HRW6.out).1).trans HRW6.out)
              have HWASA := Lib.hid (HD.rdV HWAS.out)
              repeat (refine sch_take (o := ?_) (v := ?_) (a' := ?_) (at_of hops.out ?_) ?_ (fun W hW => ?_) ?_ ?_; rotate_left 3; (focus (simp only [List.getElem?_toArray, List.getElem?_cons_zero, List.getElem?_cons_succ]; rfl)); (focus (rw [hops.out]; rfl)); (focus (obtain ⟨q0, q1, q2, q3, q4, q5, q6, q7⟩ := row8 ((hW.block wr.heap.size (Array.getElem?_eq_some_iff.1 HRWA.out).1 HBN.out).trans HRWA.out); go_simp; with_reducible rfl)); (focus (simp only [Act.put, List.setIfInBounds_toArray, List.set_cons_zero, List.set_cons_succ]; rfl)))
              (refine sch_call (o := ?_) (f := ?_) (args := ?_) (at_of hops.out ?_) ?_ ?_ ?_; rotate_left 3; (focus (simp only [List.getElem?_toArray, List.getElem?_cons_zero, List.getElem?_cons_succ]; rfl)); (focus (rw [hops.out]; rfl)); (focus (go_simp; constructor <;> with_reducible rfl)); (first | ((with_reducible refine (act_bytes ⟨K, At, V, B, N, KA, kc, ks, T, Y⟩ _).mono ?_); rintro e wB ⟨AB, rfl, hoB, hbB⟩; have HOB := Lib.hid (Own.info hoB); have HFBB := Lib.hid hbB; clear hoB hbB; refine ⟨_, rfl, TS.of HFBB.out, ?_⟩; intro a' ha'; simp only [Act.put, List.setIfInBounds_toArray, List.set_cons_zero, List.set_cons_succ] at ha'; subst ha')))
              have HDB := Lib.hid (HDA.out.fbn HFBB.out)
              (refine sch_call (o := ?_) (f := ?_) (args := ?_) (at_of hops.out ?_) ?_ ?_ ?_; rotate_left 3; (focus (simp only [List.getElem?_toArray, List.getElem?_cons_zero, List.getElem?_cons_succ]; rfl)); (focus (rw [hops.out]; rfl)); (focus (go_simp; constructor <;> with_reducible rfl)); (first | ((with_reducible refine (dsk_Write HDB.out.dsk At AB 512 512 (actRow V B) (actRow_len V B).symm (by rw [actRow_len]; omega) HOB.out.2.2.1 (fun ad ha => HDA.out.notin (HOB.out.2.2.2.2 ad ha).1)).mono ?_); rintro e w7 ⟨rfl, hres⟩; obtain ⟨F7, hd7, ht7, -⟩ := HDB.out.res hres; have HD7 := Lib.hid hd7; have HT7 := Lib.hid ht7; clear hd7 ht7 hres; refine ⟨_, rfl, HT7.out, ?_⟩; intro a' ha'; simp only [Act.put, List.setIfInBounds_toArray, List.set_cons_zero, List.set_cons_succ] at ha'; subst ha')))
              repeat (refine sch_take (o := ?_) (v := ?_) (a' := ?_) (at_of hops.out ?_) ?_ (fun W hW => ?_) ?_ ?_; rotate_left 3; (focus (simp only [List.getElem?_toArray, List.getElem?_cons_zero, List.getElem?_cons_succ]; rfl)); (focus (rw [hops.out]; rfl)); (focus (go_simp; with_reducible rfl)); (focus (simp only [Act.put, List.setIfInBounds_toArray, List.set_cons_zero, List.set_cons_succ]; rfl)))
              refine sch_done ?_
              have HRWB := Lib.hid ((HFBB.out.block wr.heap.size (Array.getElem?_eq_some_iff.1 HRWA.out).1).trans HRWA.out)
              have HRW7 := Lib.hid ((HT7.out.block wr.heap.size (Array.getElem?_eq_some_iff.1 HRWB.out).1 HBN.out).trans HRWB.out)
              have HWASB := Lib.hid (HFBB.out.rdV HWASA.out)
              have HWAS7 := Lib.hid (RdV.move HWASB.out fun a v e hc => HT7.out.cell hc (by
                cases A5 with
                | none => cases e
                | some ad => simp at e; have := HWN.out ad rfl; rw [← e]; exact this))
              clear hops HF HD
              generalize (sdWrite D n At (actRow V B)).1 = E at *
              generalize (sdWrite D n At (actRow V B)).2 = D' at *
              obtain ⟨q0, q1, q2, q3, q4, q5, q6, q7⟩ := row8 HRW7.out
              by_cases ha0 : 0 ≤ At
              · by_cases ha1 : At < (n : Int)
                · rw [show (decide (0 ≤ At) && decide (At < (n : Int))) = true from by simp only [Bool.and_eq_true, decide_eq_true_eq]; exact ⟨ha0, ha1⟩] at HOP
                  obtain ⟨hfu7, hopa, hopb⟩ := HOP.out.2 rfl
                  have HFU7 := Lib.hid hfu7
                  clear HOP hfu7
                  by_cases hca : cnt = after
                  · first
                    | exact absurd hca HCE.out
                    | (
                      obtain ⟨rfl, hb7, hm7⟩ := hopa hca
                      have hce2 : ((cnt : Int) == (after : Int)) = true := by simp [hca]
                      have HB7 := Lib.hid hb7
                      have HM7 := Lib.hid hm7
                      have HIM := Lib.hid (HIMG.out hca)
                      clear hopb hopa hb7 hm7 hca
                      go_wp2_with fail
                      refine (dsk_Cached HD7.out.dsk).mono ?_
                      rintro e w8 ⟨A8, c8, rfl, hr8, hb8, -⟩
                      have HD8 := Lib.hid (HD7.out.fbn hb8)
                      rw [HM7.out] at hr8 ⊢
                      have HML := Lib.hid (show (D.M.map (·.1)).length ≤ 1000000000 from by rw [List.length_map]; have := HD6.out.dsk.mlen; omega)
                      have HR8 := Lib.hid hr8
                      have HW8 := Lib.hid (hb8.rdV HWAS7.out)
                      clear hr8 hb8
                      go_wp2_with fail
                      refine (kit_Ints (D.M.map (·.1)) (D.M.map (·.1)) A5 A8 _ _ c5 c8 _ (by rw [List.length_map]) (by rw [List.length_map]) HML.out HML.out HW8.out HR8.out).mono ?_
                      rintro e w9 ⟨rfl, hb⟩
                      have HD9 := Lib.hid (HD8.out.fbn hb)
                      rw [decide_eq_true (rfl : D.M.map (·.1) = D.M.map (·.1))]
                      clear hb
                      go_wp2_with fail
                      refine (dsk_Image HD9.out.dsk).mono ?_
                      rintro e w10 ⟨A10, c10, rfl, hr10, -, -, -, hb⟩
                      have HD10 := Lib.hid (HD9.out.fbn hb)
                      have hs10 := run_string c10 hr10
                      rw [HD9.out.dsk.ok.len, HB7.out] at hs10
                      have himg : img = sb D.b := HIM.out
                      rw [himg]
                      clear hb hr10 himg
                      go_wp2
                      go_roundw
                      case rel => exact ⟨j + 1, cnt + 1, F7, _, by omega, by omega, by go_num, by go_num, HD10.out, HFU7.out⟩
                      case measure => simp [intOf]; omega)
                  · first
                    | exact absurd HCE.out hca
                    | (
                      obtain rfl := hopb hca
                      have hce2 : ((cnt : Int) == (after : Int)) = false := by simp; omega
                      clear hopb hopa hca
                      go_wp2
                      go_roundw
                      case rel => exact ⟨j + 1, cnt + 1, F7, _, by omega, by omega, by go_num, by go_num, HD7.out, HFU7.out⟩
                      case measure => simp [intOf]; omega)
                · rw [show (decide (0 ≤ At) && decide (At < (n : Int))) = false from by simp only [Bool.and_eq_false_iff, decide_eq_false_iff_not]; exact .inr ha1] at HOP
                  have hd1 : decide (At < (n : Int)) = false := decide_eq_false ha1
                  obtain ⟨rfl, rfl⟩ := HOP.out.1 rfl
                  clear HOP
                  have HFU7 := Lib.hid HFU.out
                  go_wp2
                  go_roundw
                  case rel => exact ⟨j + 1, cnt, F7, _, by omega, by omega, rfl, by go_num, HD7.out, HFU7.out⟩
                  case measure => simp [intOf]; omega
              · rw [show (decide (0 ≤ At) && decide (At < (n : Int))) = false from by simp only [Bool.and_eq_false_iff, decide_eq_false_iff_not]; exact .inl ha0] at HOP
                obtain ⟨rfl, rfl⟩ := HOP.out.1 rfl
                clear HOP
                have HFU7 := Lib.hid HFU.out
                go_wp2
                go_roundw
                case rel => exact ⟨j + 1, cnt, F7, _, by omega, by omega, rfl, by go_num, HD7.out, HFU7.out⟩
                case measure => simp [intOf]; omega
      · obtain rfl : j = l.length := by omega
        have hjx : ¬ (l.length : Int) < (l.length : Int) := by omega
        have HEND := Lib.hid HD.out.fb
        go_wp2
        go_ret
        exact ⟨rfl, HEND.out⟩
theorem sectorFails_walk (s0 after0 : Int) (A : Option Addr) (c : Nat) (l : List ActV) (w : World) (h0 : -9223372036854775808 ≤ s0 ∧ s0 ≤ 9223372036854775807) (h1 : -9223372036854775808 ≤ after0 ∧ after0 ≤ 9223372036854775807) (hc : l.length ≤ c) (hm : c ≤ maxLen) (hr : RdActs w A l) (hok : ∀ a ∈ l, a.ok) :
    Calls Try.prog 7 #[.int .i64 s0, .int .i64 after0, .slice A l.length c] w fun e w' => e = .returned (.bool true) ∧ Below w.heap.size w w' := sectorFails_w s0 after0 A c l w hc hm hr hok
end Go.Proofs.Ytbedpjpddcjpkaa
