/- PoolDrops: the walk through the law. -/
import Derived.Test.YtoidlmhebnlnbaaPlS
import Derived.Test.YtoidlmhebnlnbaaPlL
import Derived.Test.YtoidlmhebnlnbaaKit
import Derived.Test.YtoidlmhebnlnbaaStr
import Derived.Deep.CutRange
import Derived.Deep.DeepCutAuto
import Derived.Deep.CutBlock
set_option linter.unusedVariables false
set_option linter.unusedSimpArgs false
namespace Go.Proofs.Ytoidlmhebnlnbaa
open Go.ChangeShapes Go.WideShapes Go.ChangeAt Go.RowKit
attribute [local go_sem] nb_nonneg nb_lt8 nb_lt64
set_option maxRecDepth 100000

theorem pickNat (n m : Int) (hm : 1 ≤ m) : ∃ k : Nat, pick n m = (k : Int) ∧ (k : Int) < m := by
  have := pick_range n m hm
  exact ⟨(pick n m).toNat, by omega, by omega⟩
/-- A page is put: its row has just come. -/
theorem po_PutRow {w0 w w' : World} {g n gp gf : Nat} {st : PlSt} {A : Option Addr} {v : Byte} (h : PoA w0 [] g n gp gf st w) (ho : Own w' w.heap.size (.slice A 4096 4096) (List.replicate 4096 v)) (hb : FB w w') (k : Int) :
    Calls Try.prog 13 #[.pointer (some ⟨gp, 0, none⟩), .int .i64 k, .slice A 4096 4096] w' fun e w'' => e = .returned (.int .i64 (plPut n st k (List.replicate 4096 v)).1) ∧ PoA w0 [] g n gp gf (plPut n st k (List.replicate 4096 v)).2 w'' := by
  obtain ⟨gb, e1, e2, e3⟩ := Own.head0 ho (by omega)
  have hk := h.add hb gb e2 e3
  have hc := po_Put hk k A 4096 (List.replicate 4096 v) (by rw [List.length_replicate]; omega) ho.info.2.2.1 (fun ad ha => by rw [e1] at ha; cases ha; exact .inl (by simp))
  rw [show (List.replicate 4096 v).length = 4096 from List.length_replicate] at hc
  refine hc.mono ?_
  rintro e w2 ⟨rfl, hp, -⟩
  exact ⟨rfl, hp.fewer (by simp)⟩
theorem PoA.flen {w0 w : World} {K : List Nat} {g n gp gf : Nat} {st : PlSt} (h : PoA w0 K g n gp gf st w) : 0 < st.fs.length := by
  obtain ⟨⟨F, xs, h1, h2, h3, h4⟩, h5⟩ := h
  have := h1.hl
  rw [← h2, List.length_map]; omega
theorem PoA.n1000 {w0 w : World} {K : List Nat} {g n gp gf : Nat} {st : PlSt} (h : PoA w0 K g n gp gf st w) : st.fs.length ≤ 1000 := by
  obtain ⟨⟨F, xs, h1, h2, h3, h4⟩, h5⟩ := h
  have := h1.n256
  rw [← h2, List.length_map]; omega
set_option maxHeartbeats 4000000 in
theorem poolDrops_walk (z : Int) (a b : Byte) (hw : Int) (pin : Bool) (w : World) (hz : -9223372036854775808 ≤ z ∧ z ≤ 9223372036854775807) (hh : -9223372036854775808 ≤ hw ∧ hw ≤ 9223372036854775807) :
    Calls Try.prog 6 #[.int .i64 z, .int .u8 (nb a), .int .u8 (nb b), .int .i64 hw, .bool pin] w fun e w' => e = .returned (.bool true) ∧ Below w.heap.size w w' := by
  obtain ⟨k, hk, hkl⟩ := pickNat z 10 (by omega)
  obtain ⟨q, hq, hql⟩ := pickNat hw 4 (by omega)
  have HPK := Lib.hid (fun w' : World => by have := kit_Pick z 10 w' (by omega) (by omega); rw [hk] at this; exact this)
  have HPQ := Lib.hid (fun w' : World => by have := kit_Pick hw 4 w' (by omega) (by omega); rw [hq] at this; exact this)
  have hk10 : k < 10 := by omega
  have HK := Lib.hid hk10
  have hq4 : q < 4 := by omega
  have HQ := Lib.hid hq4
  clear hk hq hkl hql hk10 hq4
  go_enter Try.func6, Try.ntmps6
  go_wp2_with fail
  refine (law7_lives w).mono ?_
  rintro e w1 ⟨rfl, hb⟩
  have HF1 := Lib.hid hb
  clear hb
  go_wp2_with fail
  refine (dsk_New_ok 80 (by omega) (by omega) w1).mono ?_
  rintro e w2 ⟨F, g, rfl, hd, hf, hn⟩
  have HD := Lib.hid hd
  have HF := Lib.hid (HF1.out.trans hf)
  have HN := Lib.hid (fun x hx => Nat.le_trans HF1.out.le (hn x hx))
  clear hd hf hn HF1
  go_wp2_with fail
  refine (po_New HD.out HN.out HF.out 8 (by omega) (by omega) (by omega)).mono ?_
  rintro e w3 ⟨gp, gf, rfl, hp⟩
  have HP0 := Lib.hid (show PoA w [] g 80 gp gf dd0 w3 from hp)
  clear hp HD HF HN
  go_wp2_with fail
  refine (HPK.out w3).mono ?_
  rintro e w4 ⟨rfl, rfl⟩
  clear HPK
  go_wp2_with fail
  refine (law7_row a w3).mono ?_
  rintro e w4 ⟨A4, rfl, ho, hb⟩
  have HC := Lib.hid (po_PutRow HP0.out ho hb (k : Int))
  clear ho hb HP0
  obtain ⟨HE1, HX1⟩ := dr_put1 HK.out a
  have HX1 := Lib.hid HX1
  rw [HE1] at HC
  generalize (plPut 80 dd0 k (List.replicate 4096 a)).2 = st1 at *
  clear HE1
  go_wp2_with fail
  refine HC.out.mono ?_
  rintro e w5 ⟨rfl, hp⟩
  have HP1 := Lib.hid hp
  clear hp HC
  have hpl := po_plain HP1.out
  obtain ⟨HE2, HX2⟩ := dr_flush HX1.out HK.out hpl.1 hpl.2
  have HX2 := Lib.hid HX2
  have HC := Lib.hid (po_Flush HP1.out)
  rw [HE2] at HC
  generalize (plFlush 80 st1).2 = st2 at *
  clear HE2 hpl HX1
  go_wp2_with fail
  refine HC.out.mono ?_
  rintro e w6 ⟨rfl, hp, -⟩
  have HP2 := Lib.hid hp
  clear hp HC HP1
  go_wp2_with fail
  refine (law7_row b w6).mono ?_
  rintro e w7 ⟨A7, rfl, ho, hb⟩
  have HC := Lib.hid (po_PutRow HP2.out ho hb (k : Int))
  clear ho hb HP2
  obtain ⟨HE3, HX3⟩ := dr_put2 HX2.out.1 HX2.out.2 HK.out b
  have HX3 := Lib.hid HX3
  rw [HE3] at HC
  generalize (plPut 80 st2 k (List.replicate 4096 b)).2 = st3 at *
  clear HE3 HX2
  go_wp2_with fail
  refine HC.out.mono ?_
  rintro e w8 ⟨rfl, hp⟩
  have HP3 := Lib.hid hp
  clear hp HC
  go_upto_region 10 with fail
  go_cut [66] from 60 to 66 (fun s66 wx => s66 = .bool false ∧ ∃ st, Hid (PoA w [] g 80 gp gf st wx) ∧ Hid (DrA st k a b pin))
  case first =>
    cases pin with
    | false =>
      go_wp2_with fail
      go_meet
      exact ⟨rfl, st3, HP3, HX3⟩
    | true =>
      obtain ⟨HE4, HX4⟩ := dr_pin HX3.out HK.out
      have HX4 := Lib.hid HX4
      have HC := Lib.hid (po_Pin HP3.out (k : Int))
      rw [HE4] at HC
      generalize (plPin 80 st3 k).2 = st4 at *
      clear HE4
      go_wp2_with fail
      refine HC.out.mono ?_
      rintro e w9 ⟨rfl, hp, -⟩
      have HP4 := Lib.hid hp
      clear hp HC
      go_wp2_with fail
      go_meet
      exact ⟨rfl, st4, HP4, HX4⟩
  case rest =>
    obtain ⟨rfl, st, HP, HX⟩ := hcut
    clear HP3 HX3
    go_wp2_with fail
    refine (HPQ.out wc).mono ?_
    rintro e w9 ⟨rfl, rfl⟩
    clear HPQ
    go_upto_block 0 with fail
    go_cut [14, 15, 16, 17] from 69 to 111 (fun s14 s15 s16 s17 wx => ∃ (sv : Bool) (st' : PlSt), s14 = .bool sv ∧ Hid (PoA w [] g 80 gp gf st' wx) ∧ Hid (DrB st' k (if sv then b else a)))
    case first =>
      by_cases h1 : (q : Int) = 1
      · have h1b : ((q : Int) == 1) = true := by simpa using h1
        clear h1
        obtain ⟨HE5, HX5⟩ := dr_clean HX.out
        have HX5 := Lib.hid HX5
        have HC := Lib.hid (po_Clean HP.out)
        rw [HE5] at HC
        generalize (plClean 80 st).2 = st5 at *
        clear HE5
        go_wp2_with fail
        refine HC.out.mono ?_
        rintro e w10 ⟨rfl, hp, -⟩
        have HP5 := Lib.hid hp
        clear hp HC
        go_wp2_with fail
        go_meet
        exact ⟨true, st5, rfl, HP5, HX5⟩
      · have h1b : ((q : Int) == 1) = false := by simpa using h1
        clear h1
        by_cases h2 : (q : Int) = 2
        · have h2b : ((q : Int) == 2) = true := by simpa using h2
          clear h2
          go_wp2_with fail
          refine (po_Frames HP.out).mono ?_
          rintro e w10 ⟨v, rfl, ho, hb⟩
          obtain ⟨i0, hi0⟩ := HX.out.x.hit
          have HI0 := Lib.hid hi0
          have hlen : 0 < st.fs.length := by have := HX.out.x.inv.hand; omega
          have hlt0 : i0 < st.fs.length := (find_some hi0).1
          obtain ⟨gl, cap, rfl, q1, q2, q3⟩ := owns_form ho hlen
          have HP4 := Lib.hid (HP.out.add hb gl q1 q2)
          have HCS := Lib.hid q3
          have hl63 : st.fs.length ≤ 1000 := HP4.out.n1000
          clear ho hb q1 q2 q3 hi0 hlen
          generalize hL : st.fs.length = L at *
          have HL := Lib.hid hL
          clear hL
          go_wp2_with fail
          go_loopw [14, 16] (fun s14 s16 wr => ∃ (j : Nat) (sv : Bool) (st' : PlSt), j ≤ L ∧ s16 = .int .i64 j ∧ s14 = .bool sv ∧ Hid (PoA w [gl] g 80 gp gf st' wr) ∧ Hid (∀ x, x < L * 5 → wr.cell? ⟨gl, x, none⟩ = (st.fs.flatMap afCs)[x]?) ∧ Hid ((j ≤ i0 ∧ sv = false ∧ st' = st) ∨ (i0 < j ∧ DrB st' k (if sv then b else a)))) (fun _ s16 _ => L - (intOf s16).toNat)
          case atStart => exact ⟨0, false, st, by omega, rfl, rfl, HP4, HCS, Lib.hid (.inl ⟨by omega, rfl, rfl⟩)⟩
          case round =>
            clear HP4 HCS HP
            obtain ⟨j, sv, st', hj, rfl, rfl, HP, HCS, HDJ⟩ := hrel
            by_cases hlt : j < L
            · have hz : (j : Int) < (L : Int) := by omega
              obtain ⟨c0, c1, -⟩ := owns_frame (base := 0) (cap := 0) (n := L) HCS.out HL.out.symm j hlt
              have hg : st.fs[j]'(by rw [HL.out]; omega) = st.fs.getD j frm0 := by rw [List.getD_eq_getElem?_getD, List.getElem?_eq_getElem (by rw [HL.out]; omega)]; rfl
              rw [hg] at c0 c1
              have hat := HX.out.x.at HI0.out j
              have HAT := Lib.hid hat
              have HJ := Lib.hid hlt
              clear hat hg
              have hwk : IntKind.i64.wrap ((j : Int) + 1) = (j : Int) + 1 := by rw [IntKind.wrap_i64]; omega
              by_cases hji : j = i0
              · subst hji
                obtain ⟨a0, a1⟩ := HAT.out.2 rfl
                rw [a0] at c0
                rw [a1] at c1
                obtain ⟨rfl, rfl⟩ : sv = false ∧ st' = st := by
                  rcases HDJ.out with ⟨-, x, y⟩ | ⟨x, -⟩
                  · exact ⟨x, y⟩
                  · omega
                clear a0 a1 HAT HDJ hlt hj
                cases pin with
                | false =>
                  obtain ⟨HE5, HX5⟩ := dr_evict HX.out HI0.out
                  have HX5 := Lib.hid HX5
                  have HC := Lib.hid (po_Evict HP.out (j : Int))
                  rw [HE5] at HC
                  generalize (plEvict 80 st' (j : Int)).2 = st5 at *
                  clear HE5
                  go_wp2_with fail
                  refine HC.out.mono ?_
                  rintro e w11 ⟨rfl, hp, hkp⟩
                  have HP5 := Lib.hid hp
                  have HCS5 := Lib.hid (fun x (hx : x < L * 5) => (World.cell?_of_block (a := ⟨gl, x, none⟩) (hkp.2 gl (by simp))).trans (HCS.out x hx))
                  clear hp hkp HC HP HCS c0 c1
                  go_wp2_with fail
                  go_roundw
                  case rel => exact ⟨j + 1, true, st5, by have := HJ.out; omega, by go_num, rfl, HP5, HCS5, Lib.hid (.inr ⟨by omega, HX5.out⟩)⟩
                  case measure => (show L - ((j : Int) + 1).toNat < L - ((j : Int)).toNat; have := HJ.out; omega)
                | true =>
                  have HE5 := dr_noevict HX.out HI0.out
                  have HX5 := Lib.hid (dr_keep HX.out)
                  have HC := Lib.hid (po_Evict HP.out (j : Int))
                  rw [HE5] at HC
                  clear HE5
                  go_wp2_with fail
                  refine HC.out.mono ?_
                  rintro e w11 ⟨rfl, hp, hkp⟩
                  have HP5 := Lib.hid hp
                  have HCS5 := Lib.hid (fun x (hx : x < L * 5) => (World.cell?_of_block (a := ⟨gl, x, none⟩) (hkp.2 gl (by simp))).trans (HCS.out x hx))
                  clear hp hkp HC HP HCS c0 c1
                  go_wp2_with fail
                  go_roundw
                  case rel => exact ⟨j + 1, false, st', by have := HJ.out; omega, by go_num, rfl, HP5, HCS5, Lib.hid (.inr ⟨by omega, HX5.out⟩)⟩
                  case measure => (show L - ((j : Int) + 1).toNat < L - ((j : Int)).toNat; have := HJ.out; omega)
              · have hno := fun x => hji (HAT.out.1 x)
                have HD2 := Lib.hid (show (j + 1 ≤ i0 ∧ sv = false ∧ st' = st) ∨ (i0 < j + 1 ∧ DrB st' k (if sv then b else a)) from by
                  rcases HDJ.out with ⟨x, y⟩ | ⟨x, y⟩
                  · exact .inl ⟨by omega, y⟩
                  · exact .inr ⟨by omega, y⟩)
                clear HAT HDJ hlt hj hji
                generalize st.fs.getD j frm0 = fr at *
                obtain ⟨is, pg, pins, dirty, used, fb⟩ := fr
                simp only at c0 c1 hno
                cases is with
                | false =>
                  clear hno
                  go_wp2_with fail
                  go_roundw
                  case rel => exact ⟨j + 1, sv, st', by have := HJ.out; omega, by go_num, rfl, HP, HCS, HD2⟩
                  case measure => (show L - ((j : Int) + 1).toNat < L - ((j : Int)).toNat; have := HJ.out; omega)
                | true =>
                  have hne : (pg == (k : Int)) = false := by simpa using fun x => hno ⟨rfl, x⟩
                  clear hno
                  go_wp2_with fail
                  go_roundw
                  case rel => exact ⟨j + 1, sv, st', by have := HJ.out; omega, by go_num, rfl, HP, HCS, HD2⟩
                  case measure => (show L - ((j : Int) + 1).toNat < L - ((j : Int)).toNat; have := HJ.out; omega)
            · have hz : ¬ (j : Int) < (L : Int) := by omega
              obtain rfl : j = L := by omega
              have HP9 := Lib.hid (HP.out.fewer (K' := []) (by simp))
              have HX9 := Lib.hid (show DrB st' k (if sv then b else a) from by
                rcases HDJ.out with ⟨x, -⟩ | ⟨-, x⟩
                · omega
                · exact x)
              go_wp2_with fail
              go_meet
              exact ⟨sv, st', rfl, HP9, HX9⟩
        · have h2b : ((q : Int) == 2) = false := by simpa using h2
          clear h2
          by_cases h3 : (q : Int) = 3
          · have h3b : ((q : Int) == 3) = true := by simpa using h3
            clear h3
            have HX5 := Lib.hid (dr_reset HX.out)
            have HC := Lib.hid (po_Reset HP.out)
            generalize (⟨List.replicate st.fs.length frm0, 0, st.D⟩ : PlSt) = st5 at *
            go_wp2_with fail
            refine HC.out.mono ?_
            rintro e w10 ⟨rfl, hp, -⟩
            have HP5 := Lib.hid hp
            clear hp HC
            go_wp2_with fail
            go_meet
            exact ⟨false, st5, rfl, HP5, HX5⟩
          · have h3b : ((q : Int) == 3) = false := by simpa using h3
            clear h3
            have HX5 := Lib.hid (dr_keep HX.out)
            go_wp2_with fail
            go_meet
            exact ⟨false, st, rfl, HP, HX5⟩
    case rest =>
      obtain ⟨sv, st', rfl, HP5, HX5⟩ := hcut
      clear HP HX
      obtain ⟨v, hv⟩ : ∃ v, v = if sv then b else a := ⟨_, rfl⟩
      rw [← hv] at HX5
      have HV := Lib.hid hv
      clear hv
      obtain ⟨d1, d2, d3, d4, d5⟩ := dr_drop HX5.out HK.out
      have HC := Lib.hid (po_Drop HP5.out (k : Int))
      have H2 := Lib.hid d2
      have H3 := Lib.hid d3
      have H4 := Lib.hid (And.intro d4 d5)
      rw [d1] at HC
      generalize (plDrop 80 st' k).2 = st6 at *
      clear d1 d2 d3 d4 d5 HX5
      go_wp2_with fail
      refine HC.out.mono ?_
      rintro e w11 ⟨rfl, hp, -⟩
      have HP6 := Lib.hid hp
      clear hp HC HP5
      have HC := Lib.hid (po_Unpin HP6.out (k : Int))
      rw [H2.out] at HC
      go_wp2_with fail
      refine HC.out.mono ?_
      rintro e w12 ⟨rfl, hp, -⟩
      have HP7 := Lib.hid hp
      clear hp HC HP6 H2
      go_wp2_with fail
      refine (po_Frames HP7.out).mono ?_
      rintro e w13 ⟨v13, rfl, ho, hb⟩
      have hlen : 0 < st6.fs.length := HP7.out.flen
      obtain ⟨gl, cap, rfl, -, -, q3⟩ := owns_form ho hlen
      have HP8 := Lib.hid (HP7.out.byFB hb).1
      have HCS := Lib.hid q3
      have hl63 : st6.fs.length ≤ 1000 := HP7.out.n1000
      clear ho hb q3 hlen HP7
      generalize hL : st6.fs.length = L at *
      have HL := Lib.hid hL
      clear hL
      go_wp2_with fail
      go_loopw [19] (fun s19 wr => ∃ (j : Nat), j ≤ L ∧ s19 = .int .i64 j ∧ wr = w13) (fun s19 _ => L - (intOf s19).toNat)
      case atStart => exact ⟨0, by omega, rfl, rfl⟩
      case round =>
        obtain ⟨j, hj, rfl, rfl⟩ := hrel
        by_cases hlt : j < L
        · have hz : (j : Int) < (L : Int) := by omega
          obtain ⟨c0, c1, -⟩ := owns_frame (base := 0) (cap := 0) (n := L) HCS.out HL.out.symm j hlt
          have hg : st6.fs[j]'(by rw [HL.out]; omega) = st6.fs.getD j frm0 := by rw [List.getD_eq_getElem?_getD, List.getElem?_eq_getElem (by rw [HL.out]; omega)]; rfl
          rw [hg] at c0 c1
          have hat := H3.out j
          have HJ := Lib.hid hlt
          have hwk : IntKind.i64.wrap ((j : Int) + 1) = (j : Int) + 1 := by rw [IntKind.wrap_i64]; omega
          clear hg
          generalize st6.fs.getD j frm0 = fr at *
          obtain ⟨is, pg, pins, dirty, used, fb⟩ := fr
          simp only at c0 c1 hat
          cases is with
          | false =>
            clear hat
            go_wp2_with fail
            go_roundw
            case rel => exact ⟨j + 1, by have := HJ.out; omega, by go_num, trivial⟩
            case measure => (show L - ((j : Int) + 1).toNat < L - ((j : Int)).toNat; have := HJ.out; omega)
          | true =>
            have hne : (pg == (k : Int)) = false := by simpa using hat rfl
            clear hat
            go_wp2_with fail
            go_roundw
            case rel => exact ⟨j + 1, by have := HJ.out; omega, by go_num, trivial⟩
            case measure => (show L - ((j : Int) + 1).toNat < L - ((j : Int)).toNat; have := HJ.out; omega)
        · have hz : ¬ (j : Int) < (L : Int) := by omega
          obtain rfl : j = L := by omega
          clear hlt hj HCS HL H3
          go_upto_if 145 with fail
          go_cut [20] from 145 to 146 (fun s20 wx => s20 = .int .u8 (nb v) ∧ wx = wr)
          case first =>
            have hv := HV.out
            clear HV
            cases sv with
            | false =>
              obtain rfl : v = a := hv
              go_wp2_with fail
              go_meet
              exact ⟨rfl, rfl⟩
            | true =>
              obtain rfl : v = b := hv
              go_wp2_with fail
              go_meet
              exact ⟨rfl, rfl⟩
          case rest =>
            obtain ⟨rfl, rfl⟩ := hcut
            clear HV
            have HC := Lib.hid (po_Get HP8.out (k : Int))
            obtain ⟨rv, hrv⟩ : ∃ rv, rv = List.replicate 4096 v := ⟨_, rfl⟩
            rw [H4.out.1, H4.out.2, ← hrv] at HC
            have HRL := Lib.hid (show rv.length = 4096 from by rw [hrv, List.length_replicate])
            have HRV := Lib.hid hrv
            rw [HRL.out] at HC
            clear H4 hrv
            go_wp2_with fail
            refine HC.out.mono ?_
            rintro e w14 ⟨A14, c14, rfl, hr, -, hp, -⟩
            have HR14 := Lib.hid hr
            have HP9 := Lib.hid hp.fb
            clear hr hp HC HP8
            go_upto_region 41 with fail
            obtain ⟨W0, hW0⟩ : ∃ W0 : World, W0 = w14 := ⟨_, rfl⟩
            rw [← hW0]
            refine region_sch (E := FB) ((0, true) :: (1, true) :: (2, true) :: (3, true) :: (4, true) :: (5, true) :: (6, false) :: (7, true) :: (8, true) :: (9, true) :: (10, true) :: []) (by kernel_rfl) FB.refl fb_trans (fun _ _ d _ _ h => by cases d <;> exact h) (by kernel_rfl) ?_
            intro ops hops0
            have hops := Lib.hid hops0
            clear hops0
            have HF : FB W0 W0.drew := (FB.refl _).drew
            generalize W0.drew = wF at *
            have HR14b := Lib.hid (show Rd wF A14 rv from HF.rd (by rw [hW0]; exact HR14.out))
            have HP10 := Lib.hid (show FB w W0 from by rw [hW0]; exact HP9.out)
            clear hW0 HR14 HP9
            have hs1 := fun W (hw : FB wF W) => run_string c14 (FB.rd hw HR14b.out)
            rw [HRL.out] at hs1
            repeat (refine sch_take (o := ?_) (v := ?_) (a' := ?_) (at_of hops.out ?_) ?_ (fun W hW => ?_) ?_ ?_; rotate_left 3; (focus (simp only [List.getElem?_toArray, List.getElem?_cons_zero, List.getElem?_cons_succ]; rfl)); (focus (rw [hops.out]; rfl)); (focus (have u1 := hs1 W hW; go_simp; with_reducible rfl)); (focus (simp only [Act.put, List.setIfInBounds_toArray, List.set_cons_zero, List.set_cons_succ]; rfl)))
            (refine sch_call (o := ?_) (f := ?_) (args := ?_) (at_of hops.out ?_) ?_ ?_ ?_; rotate_left 3; (focus (simp only [List.getElem?_toArray, List.getElem?_cons_zero, List.getElem?_cons_succ]; rfl)); (focus (rw [hops.out]; rfl)); (focus (go_simp; constructor <;> with_reducible rfl)); (first | ((with_reducible refine (law7_row v _).mono ?_); rintro e w15 ⟨A15, rfl, ho, hb⟩; have HR15 := Lib.hid (show Rd w15 A15 rv from by rw [HRV.out]; exact ho.info.2.2.1); have HF15 := Lib.hid hb; clear ho; refine ⟨_, rfl, hb, ?_⟩; intro a' ha'; simp only [Act.put, List.setIfInBounds_toArray, List.set_cons_zero, List.set_cons_succ] at ha'; subst ha'; replace HF := HF.call hb; clear hb)))
            have hs2 := fun W (hw : FB w15 W) => run_string 4096 (FB.rd hw HR15.out)
            rw [HRL.out] at hs2
            generalize sb rv = S at *
            repeat (refine sch_take (o := ?_) (v := ?_) (a' := ?_) (at_of hops.out ?_) ?_ (fun W hW => ?_) ?_ ?_; rotate_left 3; (focus (simp only [List.getElem?_toArray, List.getElem?_cons_zero, List.getElem?_cons_succ]; rfl)); (focus (rw [hops.out]; rfl)); (focus (have u1 := hs1 W (FB.trans HF15.out hW); have u2 := hs2 W hW; go_simp; with_reducible rfl)); (focus (simp only [Act.put, List.setIfInBounds_toArray, List.set_cons_zero, List.set_cons_succ]; rfl)))
            refine sch_done ?_
            have HEND := Lib.hid (HP10.out.trans HF)
            clear hops HF hs1 hs2
            go_wp2
            go_ret
            exact ⟨rfl, HEND.out⟩
end Go.Proofs.Ytoidlmhebnlnbaa
