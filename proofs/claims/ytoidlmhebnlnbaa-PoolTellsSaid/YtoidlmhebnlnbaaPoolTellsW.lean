/- PoolTells: the walk through the law. -/
import Derived.Test.YtoidlmhebnlnbaaPlU
import Derived.Test.YtoidlmhebnlnbaaRowT
import Derived.Test.YtoidlmhebnlnbaaDskE
import Derived.Test.YtoidlmhebnlnbaaDskI
import Derived.Test.YtoidlmhebnlnbaaSchL
import Derived.Test.YtoidlmhebnlnbaaSchB
import Derived.Deep.DeepCutAuto
import Derived.Deep.CutBlock
import Derived.Deep.CutRange
set_option linter.unusedVariables false
set_option linter.unusedSimpArgs false
namespace Go.Proofs.Ytoidlmhebnlnbaa
open Go.ChangeShapes Go.WideShapes Go.ChangeAt Go.RowKit
attribute [local go_sem] nb_nonneg nb_lt8 nb_lt64
set_option maxRecDepth 100000

theorem pickNat2 (n m : Int) (hm : 1 ≤ m) : ∃ k : Nat, pick n m = (k : Int) ∧ (k : Int) < m := by
  have := pick_range n m hm
  exact ⟨(pick n m).toNat, by omega, by omega⟩
theorem pk_fun (N m : Int) (k : Nat) (h : pick N m = (k : Int)) (h1 : 1 ≤ m) (h2 : m ≤ 9223372036854775807) (w' : World) : Calls Try.prog 15 #[.int .i64 N, .int .i64 m] w' fun e w'' => e = .returned (.int .i64 (k : Int)) ∧ w' = w'' := by
  have := kit_Pick N m w' h1 h2
  rw [h] at this; exact this
set_option maxHeartbeats 8000000 in
theorem poolTells_walk (z0 z1 : Int) (A : Option Addr) (c : Nat) (l : List PActV) (w : World) (h0 : -9223372036854775808 ≤ z0 ∧ z0 ≤ 9223372036854775807) (h1 : -9223372036854775808 ≤ z1 ∧ z1 ≤ 9223372036854775807) (hc : l.length ≤ c) (hm : c ≤ maxLen) (hr : RdPActs w A l) (hok : ∀ a ∈ l, a.ok) :
    Calls Try.prog 4 #[.int .i64 z0, .int .i64 z1, .slice A l.length c] w fun e w' => e = .returned (.bool true) ∧ Below w.heap.size w w' := by
  have HR := Lib.hid hr
  have HOK := Lib.hid hok
  obtain ⟨p0, hp0, hp0l⟩ := pickNat2 z0 20 (by omega)
  obtain ⟨p1, hp1, hp1l⟩ := pickNat2 z1 8 (by omega)
  have HPK0 := Lib.hid (pk_fun z0 20 p0 hp0 (by omega) (by omega))
  have HPK1 := Lib.hid (pk_fun z1 8 p1 hp1 (by omega) (by omega))
  obtain ⟨P, hP⟩ : ∃ P, P = p0 + 1 := ⟨_, rfl⟩
  obtain ⟨fr, hfr⟩ : ∃ fr, fr = p1 + 8 := ⟨_, rfl⟩
  obtain ⟨n, hn⟩ : ∃ n, n = 8 * P := ⟨_, rfl⟩
  have hwP : IntKind.i64.wrap (1 + (p0 : Int)) = (P : Int) := by rw [IntKind.wrap_i64]; omega
  have hwF : IntKind.i64.wrap (8 + (p1 : Int)) = (fr : Int) := by rw [IntKind.wrap_i64]; omega
  have hwN : IntKind.i64.wrap (8 * (P : Int)) = (n : Int) := by rw [IntKind.wrap_i64]; omega
  have HPB := Lib.hid (show 1 ≤ P ∧ P ≤ 20 from by omega)
  have HFB := Lib.hid (show 8 ≤ fr ∧ fr ≤ 15 from by omega)
  have HN := Lib.hid hn
  clear hr hok hp0 hp1 hp0l hp1l hP hfr hn
  go_enter Try.func4, Try.ntmps4
  go_wp2_with fail
  refine (law7_lives w).mono ?_
  rintro e w1 ⟨rfl, hb⟩
  have HF1 := Lib.hid hb
  clear hb
  go_wp2_with fail
  refine (HPK0.out w1).mono ?_
  rintro e w2 ⟨rfl, rfl⟩
  go_wp2_with fail
  refine (HPK1.out w1).mono ?_
  rintro e w2 ⟨rfl, rfl⟩
  clear HPK0 HPK1
  by_cases hl : l.length ≤ 100
  · have hlx : ¬ (100 : Int) < (l.length : Int) := by omega
    have HL := Lib.hid hl
    clear hl
    go_wp2_with fail
    refine (dsk_New_ok n (by have := HPB.out; have := HN.out; omega) (by have := HPB.out; have := HN.out; omega) w1).mono ?_
    rintro e w2 ⟨F, g, rfl, hd, hf, hn⟩
    have HD := Lib.hid hd
    have HF := Lib.hid (HF1.out.trans hf)
    have HNN := Lib.hid (fun x hx => Nat.le_trans HF1.out.le (hn x hx))
    clear hd hf hn HF1
    go_wp2_with fail
    refine (po_New HD.out HNN.out HF.out fr (by have := HPB.out; have := HN.out; omega) (by have := HFB.out; omega) (by have := HFB.out; omega)).mono ?_
    rintro e w3 ⟨gp, gf, rfl, hp⟩
    have HP0 := Lib.hid hp
    have HT0 := Lib.hid (tl_start HPB.out.1 HFB.out.1)
    rw [← HN.out] at HT0
    generalize (⟨List.replicate fr frm0, 0, ⟨List.replicate (512 * n) 0#8, [], none⟩⟩ : PlSt) = st0 at *
    clear hp HD HF HNN
    obtain ⟨C1, hmk1, hC1⟩ := mk_bytes (P : Int) P rfl (by have := HPB.out; omega)
    obtain ⟨C2, hmk2, hC2⟩ := mk_ints P (by have := HPB.out; omega)
    have HC1 := Lib.hid hC1
    have HC2 := Lib.hid hC2
    clear hC1 hC2
    go_upto_region 12 with fail
    go_cut [10, 11] from 50 to 53 (fun s10 s11 wx => ∃ gh gq : Nat, s10 = .slice (some ⟨gh, 0, none⟩) P P ∧ s11 = .slice (some ⟨gq, 0, none⟩) P P ∧ Hid (TlM w g n gp gf gh gq (List.replicate P 0#8) (List.replicate P 0) st0 wx))
    case first =>
      go_region
      all_goals (go_wp2_with fail; go_meet)
      · exact ⟨_, _, rfl, rfl, Lib.hid (TlM.begin HP0.out (by rw [HC1.out]) HC2.out).1⟩
      · exact ⟨_, _, rfl, rfl, Lib.hid (TlM.begin HP0.out (by rw [HC1.out]) HC2.out).2⟩
    case rest =>
      obtain ⟨gh, gq, rfl, rfl, HM0⟩ := hcut
      clear HP0 HC1 hmk1
      go_wp2_with fail
      go_loopw [12] (fun s12 wr => ∃ (j : Nat) (hs : List Byte) (ps : List Int) (st : PlSt), j ≤ l.length ∧ s12 = .int .i64 j ∧ Hid (TlM w g n gp gf gh gq hs ps st wr) ∧ Hid (TlP P fr j hs ps st)) (fun s12 _ => l.length - (intOf s12).toNat)
      case atStart => exact ⟨0, _, _, _, by omega, rfl, HM0, HT0⟩
      case round =>
        clear HM0 HT0
        obtain ⟨j, hs, ps, st, hj, rfl, HM, HT⟩ := hrel
        by_cases hlt : j < l.length
        · have hz : (j : Int) < (l.length : Int) := by omega
          have hwk : IntKind.i64.wrap ((j : Int) + 1) = (j : Int) + 1 := by rw [IntKind.wrap_i64]; have := HL.out; omega
          have HJ := Lib.hid (show j < l.length ∧ j ≤ 100 from ⟨hlt, by have := HL.out; omega⟩)
          obtain ⟨b, o, rfl, ha⟩ := HR.out j hlt
          have HA := Lib.hid (ha.fb HM.out.po.fb)
          have HA0 := Lib.hid ha
          have HAO := Lib.hid (HOK.out _ (List.getElem_mem hlt))
          clear ha
          generalize l[j] = a at *
          obtain ⟨K, N, V⟩ := a
          obtain ⟨k, hk, hkl⟩ := pickNat2 N (P : Int) (by have := HPB.out; omega)
          obtain ⟨q, hq, hql⟩ := pickNat2 K 9 (by omega)
          have HPK0 := Lib.hid (pk_fun N (P : Int) k hk (by have := HPB.out; omega) (by have := HPB.out; omega))
          have HPK1 := Lib.hid (pk_fun K 9 q hq (by omega) (by omega))
          have HK := Lib.hid (show k < P from by omega)
          clear hk hkl hq hql hlt hj
          have a0 := HA.out.c0
          have a1 := HA.out.c1
          simp only at a0 a1
          go_wp2_with fail
          refine (HPK0.out wr).mono ?_
          rintro e w4 ⟨rfl, rfl⟩
          go_wp2_with fail
          refine (HPK1.out wr).mono ?_
          rintro e w4 ⟨rfl, rfl⟩
          clear HPK0 HPK1 a0 a1
          go_upto_block 2 with fail
          go_cut [14, 15, 16, 17] from 73 to 176 (fun s14 s15 s16 s17 wx => ∃ (hs' : List Byte) (ps' : List Int) (st' : PlSt), Hid (TlM w g n gp gf gh gq hs' ps' st' wx) ∧ Hid (TlP P fr (j + 1) hs' ps' st'))
          case first =>
            go_upto_if 94 with fail
            obtain ⟨G, hG⟩ : ∃ G : Bool, G = ((q : Int) == 0 || (q : Int) == 1 || (q : Int) == 7) := ⟨_, rfl⟩
            go_cut [94] from 95 to 97 (fun s94 wx => s94 = .bool G ∧ wx = wr)
            case first =>
              cases h0 : ((q : Int) == 0) with
              | true =>
                rw [h0] at hG
                go_wp2_with fail
                go_meet
                exact ⟨by rw [hG]; rfl, rfl⟩
              | false =>
                cases h1 : ((q : Int) == 1) with
                | true =>
                  rw [h0, h1] at hG
                  go_wp2_with fail
                  go_meet
                  exact ⟨by rw [hG]; rfl, rfl⟩
                | false =>
                  rw [h0, h1] at hG
                  cases h7 : ((q : Int) == 7) with
                  | true =>
                    rw [h7] at hG
                    go_wp2_with fail
                    go_meet
                    exact ⟨by rw [hG]; rfl, rfl⟩
                  | false =>
                    rw [h7] at hG
                    go_wp2_with fail
                    go_meet
                    exact ⟨by rw [hG]; rfl, rfl⟩
            case rest =>
              obtain ⟨rfl, rfl⟩ := hcut
              clear hG
              cases G with
              | true =>
                obtain ⟨HG1, HG2⟩ := tl_get HT.out HK.out
                have HC := Lib.hid (po_Get HM.out.po (k : Int))
                rw [← HN.out] at HG1 HG2
                have HT5 := Lib.hid HG2
                obtain ⟨hv, hhv⟩ : ∃ hv, hv = hs.getD k 0#8 := ⟨_, rfl⟩
                rw [← hhv] at HG1
                rcases HG1 with hg | ⟨hg, hgb⟩
                · rw [hg] at HC
                  generalize (plGet n st k).2 = st5 at *
                  generalize (plGetB n st k).length = m5 at *
                  clear HG2 hg hhv
                  go_wp2_with fail
                  refine HC.out.mono ?_
                  rintro e w5 ⟨A5, c5, rfl, -, -, hp, hkp⟩
                  have HM5 := Lib.hid (HM.out.step hp hkp)
                  clear hp hkp HC HM
                  go_upto_region 27 with fail
                  obtain ⟨W0, hW0⟩ : ∃ W0 : World, W0 = w5 := ⟨_, rfl⟩
                  rw [← hW0]
                  refine region_sch (E := FB) ((0, true) :: (1, true) :: (2, true) :: (3, true) :: (4, true) :: (5, true) :: (6, true) :: (7, true) :: (8, true) :: (9, true) :: (10, true) :: (11, true) :: (12, true) :: (13, true) :: (14, true) :: (15, true) :: (16, false) :: (17, true) :: (18, true) :: (19, true) :: (20, true) :: []) (by kernel_rfl) FB.refl fb_trans (fun _ _ d _ _ h => by cases d <;> exact h) (by kernel_rfl) ?_
                  intro ops hops0
                  have hops := Lib.hid hops0
                  clear hops0
                  have HF : FB W0 W0.drew := (FB.refl _).drew
                  generalize W0.drew = wF at *
                  repeat (first | (refine sch_take (o := ?_) (v := ?_) (a' := ?_) (at_of hops.out ?_) ?_ (fun W hW => ?_) ?_ ?_; rotate_left 3; (focus (simp only [List.getElem?_toArray, List.getElem?_cons_zero, List.getElem?_cons_succ]; rfl)); (focus (rw [hops.out]; rfl)); (focus (go_simp; with_reducible rfl)); (focus (simp only [Act.put, List.setIfInBounds_toArray, List.set_cons_zero, List.set_cons_succ]; rfl))) | (refine sch_skip (o := ?_) (a' := ?_) FB.refl (at_of hops.out ?_) ?_ ?_ ?_; rotate_left 2; (focus (simp only [List.getElem?_toArray, List.getElem?_cons_zero, List.getElem?_cons_succ]; rfl)); (focus (rw [hops.out]; rfl)); (focus (simp only [Act.put, List.setIfInBounds_toArray, List.set_cons_zero, List.set_cons_succ]; rfl))))
                  refine sch_done ?_
                  have HM6 := Lib.hid (HM5.out.byFB (show FB w5 wF from by rw [← hW0]; exact HF))
                  clear hops HF hW0 HM5
                  go_wp2_with fail
                  go_meet
                  exact ⟨hs, ps, st5, HM6, HT5⟩
                · obtain ⟨rv, hrv⟩ : ∃ rv, rv = List.replicate 4096 hv := ⟨_, rfl⟩
                  rw [hgb, ← hrv, hg] at HC
                  have HRL := Lib.hid (show rv.length = 4096 from by rw [hrv, List.length_replicate])
                  rw [HRL.out] at HC
                  generalize (plGet n st k).2 = st5 at *
                  have HRV := Lib.hid hrv
                  have HHV := Lib.hid hhv
                  clear HG2 hg hgb hrv hhv
                  go_wp2_with fail
                  refine HC.out.mono ?_
                  rintro e w5 ⟨A5, c5, rfl, hr5, -, hp, hkp⟩
                  have HM5 := Lib.hid (HM.out.step hp hkp)
                  have HR5 := Lib.hid hr5
                  clear hp hkp hr5 HC HM
                  go_upto_region 27 with fail
                  obtain ⟨W0, hW0⟩ : ∃ W0 : World, W0 = w5 := ⟨_, rfl⟩
                  rw [← hW0]
                  refine region_sch (E := FB) ((0, true) :: (1, true) :: (2, true) :: (3, true) :: (4, true) :: (5, true) :: (6, true) :: (7, true) :: (8, true) :: (9, true) :: (10, true) :: (11, true) :: (12, true) :: (13, true) :: (14, true) :: (15, true) :: (16, false) :: (17, true) :: (18, true) :: (19, true) :: (20, true) :: []) (by kernel_rfl) FB.refl fb_trans (fun _ _ d _ _ h => by cases d <;> exact h) (by kernel_rfl) ?_
                  intro ops hops0
                  have hops := Lib.hid hops0
                  clear hops0
                  have HF : FB W0 W0.drew := (FB.refl _).drew
                  generalize W0.drew = wF at *
                  have HFq := Lib.hid (show FB w5 wF from by rw [← hW0]; exact HF)
                  have HCq := Lib.hid (HFq.out.cell (HM5.out.hcell (k := k) (by rw [HT5.out.hl]; exact HK.out)).1)
                  rw [← HHV.out] at HCq
                  have hs1 := fun W (hw : FB wF W) => run_string c5 (FB.rd hw (HFq.out.rd HR5.out))
                  rw [HRL.out] at hs1
                  have hkP : (k : Int) < (P : Int) := by have := HK.out; omega
                  clear hW0
                  repeat (first | (refine sch_take (o := ?_) (v := ?_) (a' := ?_) (at_of hops.out ?_) ?_ (fun W hW => ?_) ?_ ?_; rotate_left 3; (focus (simp only [List.getElem?_toArray, List.getElem?_cons_zero, List.getElem?_cons_succ]; rfl)); (focus (rw [hops.out]; rfl)); (focus (have u1 := hs1 W hW; have u2 := FB.cell hW HCq.out; go_simp; with_reducible rfl)); (focus (simp only [Act.put, List.setIfInBounds_toArray, List.set_cons_zero, List.set_cons_succ]; rfl))) | (refine sch_skip (o := ?_) (a' := ?_) FB.refl (at_of hops.out ?_) ?_ ?_ ?_; rotate_left 2; (focus (simp only [List.getElem?_toArray, List.getElem?_cons_zero, List.getElem?_cons_succ]; rfl)); (focus (rw [hops.out]; rfl)); (focus (simp only [Act.put, List.setIfInBounds_toArray, List.set_cons_zero, List.set_cons_succ]; rfl))))
                  (refine sch_call (o := ?_) (f := ?_) (args := ?_) (at_of hops.out ?_) ?_ ?_ ?_; rotate_left 3; (focus (simp only [List.getElem?_toArray, List.getElem?_cons_zero, List.getElem?_cons_succ]; rfl)); (focus (rw [hops.out]; rfl)); (focus (go_simp; constructor <;> with_reducible rfl)); (first | ((with_reducible refine (law7_row hv _).mono ?_); rintro e w6 ⟨A6, rfl, ho, hb⟩; have HR6 := Lib.hid (show Rd w6 A6 rv from by rw [HRV.out]; exact ho.info.2.2.1); have HF6 := Lib.hid hb; clear ho; refine ⟨_, rfl, hb, ?_⟩; intro a' ha'; simp only [Act.put, List.setIfInBounds_toArray, List.set_cons_zero, List.set_cons_succ] at ha'; subst ha'; replace HF := HF.call hb; clear hb)))
                  have hs2 := fun W (hw : FB w6 W) => run_string 4096 (FB.rd hw HR6.out)
                  rw [HRL.out] at hs2
                  generalize sb rv = S at *
                  repeat (first | (refine sch_take (o := ?_) (v := ?_) (a' := ?_) (at_of hops.out ?_) ?_ (fun W hW => ?_) ?_ ?_; rotate_left 3; (focus (simp only [List.getElem?_toArray, List.getElem?_cons_zero, List.getElem?_cons_succ]; rfl)); (focus (rw [hops.out]; rfl)); (focus (have u1 := hs1 W (FB.trans HF6.out hW); have u2 := hs2 W hW; go_simp; with_reducible rfl)); (focus (simp only [Act.put, List.setIfInBounds_toArray, List.set_cons_zero, List.set_cons_succ]; rfl))) | (refine sch_skip (o := ?_) (a' := ?_) FB.refl (at_of hops.out ?_) ?_ ?_ ?_; rotate_left 2; (focus (simp only [List.getElem?_toArray, List.getElem?_cons_zero, List.getElem?_cons_succ]; rfl)); (focus (rw [hops.out]; rfl)); (focus (simp only [Act.put, List.setIfInBounds_toArray, List.set_cons_zero, List.set_cons_succ]; rfl))))
                  refine sch_done ?_
                  have HM6 := Lib.hid ((HM5.out.byFB HFq.out).byFB HF6.out)
                  clear hops HF hs1 hs2 HM5 HCq hkP
                  go_wp2_with fail
                  go_meet
                  exact ⟨hs, ps, st5, HM6, HT5⟩
              | false =>
                cases h4 : ((q : Int) == 4) with
                | true =>
                  have HPN := tl_pin HT.out (by have := HJ.out.2; omega) HK.out
                  rw [← HN.out] at HPN
                  have HC := Lib.hid (po_Pin HM.out.po (k : Int))
                  rcases HPN with ⟨hg, ht⟩ | ⟨hg, ht⟩
                  · have HT5 := Lib.hid ht
                    rw [hg] at HC
                    generalize (plPin n st k).2 = st5 at *
                    clear hg ht
                    go_wp2_with fail
                    refine HC.out.mono ?_
                    rintro e w5 ⟨rfl, hp, hkp⟩
                    have HM5 := Lib.hid (HM.out.step hp hkp)
                    clear hp hkp HC HM
                    go_wp2_with fail
                    go_meet
                    exact ⟨hs, ps, st5, HM5, HT5⟩
                  · have HT5 := Lib.hid ht
                    rw [hg] at HC
                    generalize (plPin n st k).2 = st5 at *
                    clear hg ht
                    go_wp2_with fail
                    refine HC.out.mono ?_
                    rintro e w5 ⟨rfl, hp, hkp⟩
                    have HM5 := Lib.hid (HM.out.step hp hkp)
                    clear hp hkp HC HM
                    have HX := Lib.hid (HT.out.b k HK.out)
                    obtain ⟨u1, u2⟩ := HM5.out.pcell (k := k) (by rw [HT.out.pl]; exact HK.out)
                    have HMS := Lib.hid (HM5.out.setp (pl_small HT5.out.inv) (by rw [HT.out.pl]; have := HPB.out; omega) k (ps.getD k 0 + 1))
                    generalize ps.getD k 0 = x at *
                    have hwx : IntKind.i64.wrap (x + 1) = x + 1 := by rw [IntKind.wrap_i64]; have := HX.out; have := HJ.out.2; omega
                    have hkP : (k : Int) < (P : Int) := by have := HK.out; omega
                    go_wp2_with fail
                    go_meet
                    exact ⟨hs, _, st5, HMS, HT5⟩
                | false =>
                  cases h5 : ((q : Int) == 5) with
                  | true =>
                    have HPN := tl_unpin HT.out (by have := HJ.out.2; omega) HK.out
                    have HX := Lib.hid (HT.out.b k HK.out)
                    have hkP : (k : Int) < (P : Int) := by have := HK.out; omega
                    go_upto_region 36 with fail
                    obtain ⟨W0, hW0⟩ : ∃ W0 : World, W0 = wc := ⟨_, rfl⟩
                    rw [← hW0] at HM ⊢
                    clear hW0
                    refine region_sch (E := KP [gh, gq]) ((0, true) :: (1, true) :: (4, true) :: (5, true) :: (6, true) :: (7, true) :: (8, true) :: (2, false) :: (3, true) :: (9, true) :: []) (by kernel_rfl) (KP.refl _) (fun _ _ _ h k => h.trans k) (fun _ _ d _ _ h => by cases d <;> exact h) (by kernel_rfl) ?_
                    intro ops hops0
                    have hops := Lib.hid hops0
                    clear hops0
                    have HD : FB W0 W0.drew := (FB.refl _).drew
                    generalize W0.drew = wF at *
                    have HMq := Lib.hid (HM.out.byFB HD)
                    have HCq := Lib.hid (HMq.out.pcell (k := k) (by rw [HT.out.pl]; exact HK.out)).1
                    have HC := Lib.hid (po_Unpin HMq.out.po (k : Int))
                    clear HM HD
                    rcases HPN with ⟨hx0, hg, ht⟩ | ⟨hx0, hg, ht⟩
                    · rw [hx0] at HCq
                      rw [hg] at HC
                      have HT5 := Lib.hid ht
                      clear hg ht
                      repeat (refine sch_take (o := ?_) (v := ?_) (a' := ?_) (at_of hops.out ?_) ?_ (fun W hW => ?_) ?_ ?_; rotate_left 3; (focus (simp only [List.getElem?_toArray, List.getElem?_cons_zero, List.getElem?_cons_succ]; rfl)); (focus (rw [hops.out]; rfl)); (focus (have u1 := (World.cell?_of_block (a := ⟨gq, k, none⟩) (hW.2 gq (by simp))).trans HCq.out; go_simp; with_reducible rfl)); (focus (simp only [Act.put, List.setIfInBounds_toArray, List.set_cons_zero, List.set_cons_succ]; rfl)))
                      (refine sch_call (o := ?_) (f := ?_) (args := ?_) (at_of hops.out ?_) ?_ ?_ ?_; rotate_left 3; (focus (simp only [List.getElem?_toArray, List.getElem?_cons_zero, List.getElem?_cons_succ]; rfl)); (focus (rw [hops.out]; rfl)); (focus (go_simp; constructor <;> with_reducible rfl)); (first | ((with_reducible refine HC.out.mono ?_); rintro e w5 ⟨rfl, hp, hkp⟩; have HM5 := Lib.hid (HMq.out.step hp hkp); clear hp; refine ⟨_, rfl, hkp, ?_⟩; intro a' ha'; simp only [Act.put, List.setIfInBounds_toArray, List.set_cons_zero, List.set_cons_succ] at ha'; subst ha')))
                      repeat (refine sch_take (o := ?_) (v := ?_) (a' := ?_) (at_of hops.out ?_) ?_ (fun W hW => ?_) ?_ ?_; rotate_left 3; (focus (simp only [List.getElem?_toArray, List.getElem?_cons_zero, List.getElem?_cons_succ]; rfl)); (focus (rw [hops.out]; rfl)); (focus (go_simp; with_reducible rfl)); (focus (simp only [Act.put, List.setIfInBounds_toArray, List.set_cons_zero, List.set_cons_succ]; rfl)))
                      refine sch_done ?_
                      obtain ⟨u1, u2⟩ := HM5.out.pcell (k := k) (by rw [HT.out.pl]; exact HK.out)
                      rw [hx0] at u1
                      have HMS := Lib.hid (HM5.out.setp (pl_small HT5.out.inv) (by rw [HT.out.pl]; have := HPB.out; omega) k 0)
                      clear hops HC HCq HMq hx0
                      go_wp2_with fail
                      go_meet
                      exact ⟨hs, _, st, HMS, HT5⟩
                    · rw [hg] at HC
                      have HT5 := Lib.hid ht
                      generalize (plUnpin st k).2 = st5 at *
                      clear hg ht
                      obtain ⟨x, hx⟩ : ∃ x, x = ps.getD k 0 := ⟨_, rfl⟩
                      rw [← hx] at HCq hx0 HX HT5
                      have HXX := Lib.hid hx
                      clear hx
                      have hwx : IntKind.i64.wrap (x - 1) = x - 1 := by rw [IntKind.wrap_i64]; have := HX.out; have := HJ.out.2; omega
                      have hxm : max 0 (x - 1) = x - 1 := by omega
                      have hxd : decide (0 < x) = true := by simpa using hx0
                      repeat (refine sch_take (o := ?_) (v := ?_) (a' := ?_) (at_of hops.out ?_) ?_ (fun W hW => ?_) ?_ ?_; rotate_left 3; (focus (simp only [List.getElem?_toArray, List.getElem?_cons_zero, List.getElem?_cons_succ]; rfl)); (focus (rw [hops.out]; rfl)); (focus (have u1 := (World.cell?_of_block (a := ⟨gq, k, none⟩) (hW.2 gq (by simp))).trans HCq.out; go_simp; with_reducible rfl)); (focus (simp only [Act.put, List.setIfInBounds_toArray, List.set_cons_zero, List.set_cons_succ]; rfl)))
                      (refine sch_call (o := ?_) (f := ?_) (args := ?_) (at_of hops.out ?_) ?_ ?_ ?_; rotate_left 3; (focus (simp only [List.getElem?_toArray, List.getElem?_cons_zero, List.getElem?_cons_succ]; rfl)); (focus (rw [hops.out]; rfl)); (focus (go_simp; constructor <;> with_reducible rfl)); (first | ((with_reducible refine HC.out.mono ?_); rintro e w5 ⟨rfl, hp, hkp⟩; have HM5 := Lib.hid (HMq.out.step hp hkp); clear hp; refine ⟨_, rfl, hkp, ?_⟩; intro a' ha'; simp only [Act.put, List.setIfInBounds_toArray, List.set_cons_zero, List.set_cons_succ] at ha'; subst ha')))
                      repeat (refine sch_take (o := ?_) (v := ?_) (a' := ?_) (at_of hops.out ?_) ?_ (fun W hW => ?_) ?_ ?_; rotate_left 3; (focus (simp only [List.getElem?_toArray, List.getElem?_cons_zero, List.getElem?_cons_succ]; rfl)); (focus (rw [hops.out]; rfl)); (focus (go_simp; with_reducible rfl)); (focus (simp only [Act.put, List.setIfInBounds_toArray, List.set_cons_zero, List.set_cons_succ]; rfl)))
                      refine sch_done ?_
                      obtain ⟨u1, u2⟩ := HM5.out.pcell (k := k) (by rw [HT.out.pl]; exact HK.out)
                      rw [← HXX.out] at u1
                      have HMS := Lib.hid (HM5.out.setp (pl_small HT5.out.inv) (by rw [HT.out.pl]; have := HPB.out; omega) k (x - 1))
                      clear hops HC HCq HMq
                      go_wp2_with fail
                      all_goals go_meet
                      all_goals first | exact ⟨hs, _, st5, HMS, HT5⟩ | (obtain rfl : x = 1 := (by omega); exact ⟨hs, ps.set k 0, st5, HMS, HT5⟩)
                  | false =>
                    cases h6 : ((q : Int) == 6) with
                    | true =>
                      obtain ⟨y, hy, -⟩ := pickNat2 N (fr : Int) (by have := HFB.out; omega)
                      have HPK2 := Lib.hid (pk_fun N (fr : Int) y hy (by have := HFB.out; omega) (by have := HFB.out; omega))
                      have ht := tl_evict HT.out (y : Int)
                      rw [← HN.out] at ht
                      have HT5 := Lib.hid ht
                      have HC := Lib.hid (po_Evict HM.out.po (y : Int))
                      generalize (plEvict n st (y : Int)).2 = st5 at *
                      generalize (plEvict n st (y : Int)).1 = ec at *
                      have a1 := HA.out.c1
                      simp only at a1
                      clear ht hy
                      go_wp2_with fail
                      refine (HPK2.out _).mono ?_
                      rintro e w4 ⟨rfl, rfl⟩
                      clear a1 HPK2
                      go_wp2_with fail
                      refine HC.out.mono ?_
                      rintro e w5 ⟨rfl, hp, hkp⟩
                      have HM5 := Lib.hid (HM.out.step hp hkp)
                      clear hp hkp HC HM
                      go_wp2_with fail
                      go_meet
                      exact ⟨hs, ps, st5, HM5, HT5⟩
                    | false =>
                      cases h8 : ((q : Int) == 8) with
                      | true =>
                        obtain ⟨hg, ht⟩ := tl_clean HT.out
                        rw [← HN.out] at hg ht
                        have HT5 := Lib.hid ht
                        have HC := Lib.hid (po_Clean HM.out.po)
                        rw [hg] at HC
                        generalize (plClean n st).2 = st5 at *
                        clear ht hg
                        go_wp2_with fail
                        refine HC.out.mono ?_
                        rintro e w5 ⟨rfl, hp, hkp⟩
                        have HM5 := Lib.hid (HM.out.step hp hkp)
                        clear hp hkp HC HM
                        go_wp2_with fail
                        go_meet
                        exact ⟨hs, ps, st5, HM5, HT5⟩
                      | false =>
                        have HPN := tl_put HT.out HK.out V
                        rw [← HN.out] at HPN
                        have a2 := HA.out.c2
                        simp only at a2
                        go_wp2_with fail
                        refine (law7_row V _).mono ?_
                        rintro e w5 ⟨A5, rfl, ho, hb⟩
                        have HC := Lib.hid (po_PutRowK HM.out.po ho hb (k : Int))
                        clear ho hb
                        rcases HPN with ⟨hg, ht⟩ | ⟨hg, ht⟩
                        · have HT5 := Lib.hid ht
                          rw [hg] at HC
                          generalize (plPut n st k (List.replicate 4096 V)).2 = st5 at *
                          clear hg ht a2
                          go_wp2_with fail
                          refine HC.out.mono ?_
                          rintro e w6 ⟨rfl, hp, hkp⟩
                          have HM5 := Lib.hid (HM.out.step hp hkp)
                          clear hp hkp HC HM
                          go_wp2_with fail
                          go_meet
                          exact ⟨hs, ps, st5, HM5, HT5⟩
                        · have HT5 := Lib.hid ht
                          rw [hg] at HC
                          generalize (plPut n st k (List.replicate 4096 V)).2 = st5 at *
                          clear hg ht a2
                          go_wp2_with fail
                          refine HC.out.mono ?_
                          rintro e w6 ⟨rfl, hp, hkp⟩
                          have HM5 := Lib.hid (HM.out.step hp hkp)
                          have a2 := HM5.out.po.fb.cell (show w.cell? ⟨b, o + j * 3 + 2, none⟩ = some (.int .u8 (nb V)) from HA0.out.c2)
                          clear hp hkp HC HM
                          obtain ⟨u1, u2⟩ := HM5.out.hcell (k := k) (by rw [HT.out.hl]; exact HK.out)
                          have HMS := Lib.hid (HM5.out.seth (pl_small HT5.out.inv) (by rw [HT.out.hl]; have := HPB.out; omega) k V)
                          have hkP : (k : Int) < (P : Int) := by have := HK.out; omega
                          go_wp2_with fail
                          go_meet
                          exact ⟨_, ps, st5, HMS, HT5⟩
          case rest =>
            obtain ⟨hs', ps', st', HM2, HT2⟩ := hcut
            clear HM HT HA HAO HA0 HK
            go_wp2_with fail
            refine (po_Frames HM2.out.po).mono ?_
            rintro e w5 ⟨v5, rfl, ho, hb⟩
            obtain ⟨gl, cap, rfl, -, -, q3⟩ := owns_form ho (pl_flen HM2.out.po)
            rw [HT2.out.fl] at q3 ⊢
            have HCS := Lib.hid q3
            have HM5 := Lib.hid (HM2.out.byFB hb)
            clear ho hb q3 HM2
            obtain ⟨gz, hgz⟩ : ∃ gz, gz = w5.heap.size := ⟨_, rfl⟩
            have HZ := Lib.hid (show (w5.alloc (.cells C2 3)).heap[gz]? = some (.cells ((hdL st' P 0).map (.int .i64)).toArray 3 (0, 0)) from by
              rw [hgz, heap_alloc_new, HC2.out, hdL_zero])
            have HZB := Lib.hid ((FB.refl w5).alloc (.cells C2 3))
            have HGZ := Lib.hid (show w5.heap.size ≤ gz from by omega)
            go_wp2_with fail
            rw [← hgz]
            generalize w5.alloc (.cells C2 3) = w6 at *
            clear hgz
            go_loopw [20] (fun s20 wr => ∃ m : Nat, m ≤ fr ∧ s20 = .int .i64 m ∧ Hid (FB w5 wr) ∧ Hid (wr.heap[gz]? = some (.cells ((hdL st' P m).map (.int .i64)).toArray 3 (0, 0)))) (fun s20 _ => fr - (intOf s20).toNat)
            case atStart => exact ⟨0, by omega, rfl, HZB, HZ⟩
            case round =>
              clear HZ HZB
              obtain ⟨m, hm, rfl, HB, HZ⟩ := hrel
              by_cases hmf : m < fr
              · have hz2 : (m : Int) < (fr : Int) := by omega
                obtain ⟨c0, c1, c2⟩ := owns_frame (base := 0) (cap := 0) (n := fr) HCS.out HT2.out.fl.symm m hmf
                have hg : st'.fs[m]'(by rw [HT2.out.fl]; omega) = st'.fs.getD m frm0 := by rw [List.getD_eq_getElem?_getD, List.getElem?_eq_getElem (by rw [HT2.out.fl]; omega)]; rfl
                rw [hg] at c0 c1 c2
                have c0 := HB.out.cell c0
                have c1 := HB.out.cell c1
                have c2 := HB.out.cell c2
                have hwm : IntKind.i64.wrap ((m : Int) + 1) = (m : Int) + 1 := by rw [IntKind.wrap_i64]; have := HFB.out; omega
                have HMF := Lib.hid hmf
                clear hmf hm hg
                cases hi : (st'.fs.getD m frm0).is with
                | false =>
                  have HZ2 := Lib.hid (show wr.heap[gz]? = some (.cells ((hdL st' P (m + 1)).map (.int .i64)).toArray 3 (0, 0)) from by rw [hdL_off HT2.out.inv hi]; exact HZ.out)
                  rw [hi] at c0
                  go_wp2_with fail
                  go_roundw
                  case rel => exact ⟨m + 1, by have := HMF.out; omega, by go_num, HB, HZ2⟩
                  case measure => (show fr - ((m : Int) + 1).toNat < fr - ((m : Int)).toNat; have := HMF.out; omega)
                | true =>
                  obtain ⟨k0, hk0, hk0l⟩ := HT2.out.inv.pg m hi
                  have hk0P : k0 < P := by omega
                  obtain ⟨d1, d2⟩ := hdL_on HT2.out.inv hi hk0 hk0P
                  rw [hi] at c0
                  rw [hk0] at c1
                  have hpv := HT2.out.inv.pins m
                  have hpb : (st'.fs.getD m frm0).pins ≤ 101 := by
                    have e1 := plN_hit (HT2.out.inv.hit hi hk0)
                    have e2 := HT2.out.p k0 hk0P
                    have e3 := (HT2.out.b k0 hk0P).2
                    rw [← e1, e2]; have := HJ.out.2; omega
                  have HK0 := Lib.hid hk0P
                  have hk0z : (k0 : Int) < (P : Int) := by omega
                  have uz : wr.cell? ⟨gz, k0, none⟩ = some (.int .i64 0) := by
                    rw [rw_cell HZ.out (k := k0) (by rw [List.length_map, hdL_len]; exact hk0P), List.getElem_map]
                    rw [List.getD_eq_getElem?_getD, List.getElem?_eq_getElem (by rw [hdL_len]; exact hk0P)] at d1
                    simp only [Option.getD_some] at d1
                    rw [d1]
                  have uf := frozen_row _ HZ.out k0
                  have HD2 := Lib.hid d2
                  generalize (st'.fs.getD m frm0).pins = pn at *
                  have hwp0 : IntKind.i64.wrap (0 + pn) = pn := by rw [IntKind.wrap_i64]; omega
                  have hwp1 : IntKind.i64.wrap pn = pn := by rw [IntKind.wrap_i64]; omega
                  have HU := Lib.hid (And.intro uz (And.intro c1 c2))
                  clear d1 d2 hpv hpb hk0 hk0l hk0P uz c1 c2
                  go_upto_region 50 with fail
                  clear c0
                  obtain ⟨W0, hW0⟩ : ∃ W0 : World, W0 = wr := ⟨_, rfl⟩
                  rw [← hW0]
                  refine region_schL (E := FB) 21 ((0, true) :: (1, true) :: (2, true) :: (3, true) :: (4, true) :: (5, true) :: (6, true) :: (7, true) :: (8, true) :: (9, true) :: (10, true) :: (11, true) :: (12, true) :: (13, true) :: (14, true) :: (15, true) :: (16, true) :: (17, true) :: (18, true) :: (19, true) :: (20, true) :: []) (by kernel_rfl) FB.refl fb_trans (fun _ _ d _ _ h => by cases d <;> exact h) (by kernel_rfl) ?_
                  intro ops hops0
                  have hops := Lib.hid hops0
                  clear hops0
                  have HF : FB W0 W0.drew := (FB.refl _).drew
                  generalize W0.drew = wF at *
                  have HFq := Lib.hid (show FB wr wF from by rw [← hW0]; exact HF)
                  have HZq := Lib.hid ((HFq.out.block _ (Array.getElem?_eq_some_iff.1 HZ.out).1).trans HZ.out)
                  have HUq := Lib.hid (And.intro (HFq.out.cell HU.out.1) (And.intro (HFq.out.cell HU.out.2.1) (HFq.out.cell HU.out.2.2)))
                  clear hW0 HF
                  repeat (refine sch_take (o := ?_) (v := ?_) (a' := ?_) (at_of hops.out ?_) ?_ (fun W hW => ?_) ?_ ?_; rotate_left 3; (focus (simp only [List.getElem?_toArray, List.getElem?_cons_zero, List.getElem?_cons_succ]; rfl)); (focus (rw [hops.out]; rfl)); (focus (have u1 := FB.cell hW HUq.out.1; have u2 := FB.cell hW HUq.out.2.1; have u3 := FB.cell hW HUq.out.2.2; go_simp; with_reducible rfl)); (focus (simp only [Act.put, List.setIfInBounds_toArray, List.set_cons_zero, List.set_cons_succ]; rfl)))
                  have u1 := HUq.out.1
                  have u4 := frozen_row _ HZq.out k0
                  (refine schL_store (o := ?_) (w' := wF.setCell ⟨gz, k0, none⟩ (.int .i64 pn)) (at_of hops.out ?_) ?_ 3 (.tmp 212) (.tmp 211) ?_ (.pointer (some ⟨gz, k0, none⟩)) (.int .i64 pn) ?_ ?_ ?_ ?_; rotate_left 1; (focus (simp only [List.getElem?_toArray, List.getElem?_cons_zero, List.getElem?_cons_succ]; rfl)); (focus (rw [hops.out]; rfl)); (focus rfl); (focus rfl); (focus rfl); (focus (go_simp)))
                  have HZ2 := Lib.hid (show (wF.setCell ⟨gz, k0, none⟩ (.int .i64 pn)).heap[gz]? = some (.cells ((hdL st' P (m + 1)).map (.int .i64)).toArray 3 (0, 0)) from by
                    rw [rw_set HZq.out, HD2.out, List.map_set])
                  have HB2 := Lib.hid (show FB w5 (wF.setCell ⟨gz, k0, none⟩ (.int .i64 pn)) from (HB.out.trans HFq.out).set (p := ⟨gz, k0, none⟩) HGZ.out _)
                  clear u1 u4 hops HUq HZq uf HU
                  go_wp2_with fail
                  go_roundw
                  case rel => exact ⟨m + 1, by have := HMF.out; omega, by go_num, HB2, HZ2⟩
                  case measure => (show fr - ((m : Int) + 1).toNat < fr - ((m : Int)).toNat; have := HMF.out; omega)
              · have hz2 : ¬ (m : Int) < (fr : Int) := by omega
                obtain rfl : m = fr := by omega
                clear hmf hm
                have HM6 := Lib.hid (HM5.out.byFB HB.out)
                have HCI := Lib.hid (kit_Ints ps' ps' (some ⟨gz, 0, none⟩) (some ⟨gq, 0, none⟩) P P P P wr HT2.out.pl.symm HT2.out.pl.symm (by rw [HT2.out.pl]; have := HPB.out; omega) (by rw [HT2.out.pl]; have := HPB.out; omega) (rw_rd (by have := HZ.out; rw [hdL_end HT2.out] at this; exact this)) (rw_rd HM6.out.prow))
                rw [show decide (ps' = ps') = true from by simp] at HCI
                go_wp2_with fail
                refine HCI.out.mono ?_
                rintro e w7 ⟨rfl, hb⟩
                have HM7 := Lib.hid (HM6.out.byFB hb)
                clear hb HCI HM6 HM5 HB HZ HCS
                go_wp2_with fail
                go_roundw
                case rel => exact ⟨j + 1, hs', ps', st', by have := HJ.out.1; omega, by go_num, HM7, HT2⟩
                case measure => (show l.length - ((j : Int) + 1).toNat < l.length - ((j : Int)).toNat; have := HJ.out.1; omega)
        · have hz : ¬ (j : Int) < (l.length : Int) := by omega
          obtain rfl : j = l.length := by omega
          clear hlt hj
          have hpl := po_plain HM.out.po
          obtain ⟨f1, bz, f2, f3⟩ := tl_flush HT.out (HN.out ▸ hpl.1) (HN.out ▸ hpl.2)
          rw [← HN.out] at f1 f2
          have HC := Lib.hid (po_Flush HM.out.po)
          rw [f1] at HC
          have HF3 := Lib.hid f3
          generalize (plFlush n st).2 = st5 at *
          have HF2 := Lib.hid f2
          clear f1 f2 f3 hpl
          go_wp2_with fail
          refine HC.out.mono ?_
          rintro e w5 ⟨rfl, hp, hkp⟩
          have HM5 := Lib.hid (HM.out.step hp hkp)
          clear hp hkp HC HM
          obtain ⟨Fd, hdk, -⟩ := HM5.out.po.dsk
          rw [HF2.out] at hdk
          have HDK := Lib.hid hdk
          clear hdk
          go_wp2_with fail
          refine (dsk_Image HDK.out).mono ?_
          rintro e w6 ⟨Ai, ci, rfl, hri, hci, hmi, -, hb⟩
          have HM6 := Lib.hid (HM5.out.byFB hb)
          have HD6 := Lib.hid (HDK.out.fb hb)
          have HBZ := Lib.hid (show bz.length = 512 * n from HDK.out.ok.len)
          have HRI := Lib.hid hri
          have HCI := Lib.hid hci
          clear hri hci hmi hb HM5 HDK HF2
          go_wp2_with fail
          go_loopw [22] (fun s22 wr => ∃ m : Nat, m ≤ P ∧ s22 = .int .i64 m ∧ Hid (FB w6 wr)) (fun s22 _ => P - (intOf s22).toNat)
          case atStart => exact ⟨0, by omega, rfl, Lib.hid (FB.refl _)⟩
          case round =>
            obtain ⟨m, hm, rfl, HB⟩ := hrel
            by_cases hmf : m < P
            · have hz2 : (m : Int) < (P : Int) := by omega
              obtain ⟨kk, hkk⟩ : ∃ kk, kk = 4096 * m := ⟨_, rfl⟩
              have hkb : kk + 4096 ≤ 512 * n := by have := HN.out; omega
              obtain ⟨Aj, hcut, hcr, -⟩ := cut_at Ai ci bz kk 4096 (by rw [HBZ.out]; exact hkb) (by rw [HBZ.out]; exact HCI.out)
              rw [HBZ.out] at hcut
              have HCUT := Lib.hid (show ∀ W, (Instr.slice 29 (.slice Ai (512 * n) ci) (some (.int .i64 (kk : Int))) (some (.int .i64 ((kk : Int) + 4096))) none).run Try.prog W = .ok (.slice Aj 4096 (ci - kk)) W from hcut)
              obtain ⟨hv, hhv⟩ : ∃ hv, hv = hs.getD m 0#8 := ⟨_, rfl⟩
              obtain ⟨rv, hrv⟩ : ∃ rv, rv = List.replicate 4096 hv := ⟨_, rfl⟩
              have hxi := hcr w6 HRI.out
              rw [hkk, HF3.out m hmf, ← hhv, ← hrv] at hxi
              have HRL := Lib.hid (show rv.length = 4096 from by rw [hrv, List.length_replicate])
              have HXI := Lib.hid (HB.out.rd hxi)
              have HCQ := Lib.hid ((HM6.out.byFB HB.out).hcell (k := m) (by rw [HT.out.hl]; exact hmf)).1
              rw [← hhv] at HCQ
              have HRV := Lib.hid hrv
              have hw1 : IntKind.i64.wrap ((m : Int) * 4096) = (kk : Int) := by rw [IntKind.wrap_i64]; have := HPB.out; omega
              have hw2 : IntKind.i64.wrap ((m : Int) + 1) = (m : Int) + 1 := by rw [IntKind.wrap_i64]; have := HPB.out; omega
              have hw3 : IntKind.i64.wrap (((m : Int) + 1) * 4096) = (kk : Int) + 4096 := by rw [IntKind.wrap_i64]; have := HPB.out; omega
              have HMF := Lib.hid hmf
              clear hcut hcr hkk hhv hrv hxi hkb hmf hm
              go_upto_region 59 with fail
              obtain ⟨W0, hW0⟩ : ∃ W0 : World, W0 = wr := ⟨_, rfl⟩
              rw [← hW0]
              refine region_sch (E := FB) ((0, true) :: (1, true) :: (2, true) :: (3, true) :: (4, true) :: (5, true) :: (6, true) :: (7, true) :: (8, true) :: (9, true) :: (10, true) :: (11, true) :: (12, false) :: (13, true) :: (14, true) :: []) (by kernel_rfl) FB.refl fb_trans (fun _ _ d _ _ h => by cases d <;> exact h) (by kernel_rfl) ?_
              intro ops hops0
              have hops := Lib.hid hops0
              clear hops0
              have HF : FB W0 W0.drew := (FB.refl _).drew
              generalize W0.drew = wF at *
              have HFq := Lib.hid (show FB wr wF from by rw [← hW0]; exact HF)
              clear hW0
              have HCq := Lib.hid (HFq.out.cell HCQ.out)
              have hs1 := fun W (hw : FB wF W) => run_string (ci - kk) (FB.rd hw (HFq.out.rd HXI.out))
              rw [HRL.out] at hs1
              repeat (refine sch_take (o := ?_) (v := ?_) (a' := ?_) (at_of hops.out ?_) ?_ (fun W hW => ?_) ?_ ?_; rotate_left 3; (focus (simp only [List.getElem?_toArray, List.getElem?_cons_zero, List.getElem?_cons_succ]; rfl)); (focus (rw [hops.out]; rfl)); (focus (have u1 := hs1 W hW; have u2 := FB.cell hW HCq.out; have u3 := HCUT.out W; go_simp; with_reducible rfl)); (focus (simp only [Act.put, List.setIfInBounds_toArray, List.set_cons_zero, List.set_cons_succ]; rfl)))
              (refine sch_call (o := ?_) (f := ?_) (args := ?_) (at_of hops.out ?_) ?_ ?_ ?_; rotate_left 3; (focus (simp only [List.getElem?_toArray, List.getElem?_cons_zero, List.getElem?_cons_succ]; rfl)); (focus (rw [hops.out]; rfl)); (focus (go_simp; constructor <;> with_reducible rfl)); (first | ((with_reducible refine (law7_row hv _).mono ?_); rintro e w7 ⟨A7, rfl, ho, hb⟩; have HR7 := Lib.hid (show Rd w7 A7 rv from by rw [HRV.out]; exact ho.info.2.2.1); have HF7 := Lib.hid hb; clear ho; refine ⟨_, rfl, hb, ?_⟩; intro a' ha'; simp only [Act.put, List.setIfInBounds_toArray, List.set_cons_zero, List.set_cons_succ] at ha'; subst ha'; replace HF := HF.call hb; clear hb)))
              have hs2 := fun W (hw : FB w7 W) => run_string 4096 (FB.rd hw HR7.out)
              rw [HRL.out] at hs2
              generalize sb rv = S at *
              repeat (refine sch_take (o := ?_) (v := ?_) (a' := ?_) (at_of hops.out ?_) ?_ (fun W hW => ?_) ?_ ?_; rotate_left 3; (focus (simp only [List.getElem?_toArray, List.getElem?_cons_zero, List.getElem?_cons_succ]; rfl)); (focus (rw [hops.out]; rfl)); (focus (have u1 := hs1 W (FB.trans HF7.out hW); have u2 := hs2 W hW; go_simp; with_reducible rfl)); (focus (simp only [Act.put, List.setIfInBounds_toArray, List.set_cons_zero, List.set_cons_succ]; rfl)))
              refine sch_done ?_
              have HB2 := Lib.hid (HB.out.trans (HFq.out.trans HF7.out))
              clear hops HF hs1 hs2 HCq HCQ HCUT HXI hw1 hw3
              go_wp2_with fail
              go_roundw
              case rel => exact ⟨m + 1, by have := HMF.out; omega, by go_num, HB2⟩
              case measure => (show P - ((m : Int) + 1).toNat < P - ((m : Int)).toNat; have := HMF.out; omega)
            · have hz2 : ¬ (m : Int) < (P : Int) := by omega
              obtain rfl : m = P := by omega
              clear hmf hm
              have HC := Lib.hid (dsk_Cached (HD6.out.fb HB.out))
              go_wp2_with fail
              refine HC.out.mono ?_
              rintro e w7 ⟨A7, c7, rfl, -, hb, -⟩
              have HEND := Lib.hid ((HM6.out.po.fb.trans HB.out).trans hb)
              clear hb HC
              go_wp2
              go_ret
              exact ⟨rfl, HEND.out⟩
  · have hlx : (100 : Int) < (l.length : Int) := by omega
    clear hl
    go_wp2_with fail
    go_ret
    exact ⟨rfl, HF1.out⟩
end Go.Proofs.Ytoidlmhebnlnbaa
