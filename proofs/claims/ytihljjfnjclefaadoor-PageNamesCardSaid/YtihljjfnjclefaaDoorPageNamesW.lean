/- The walk through PageNames. -/
import Derived.Test.YtihljjfnjclefaaDoorPgL
import Derived.Test.YtihljjfnjclefaaDoorPgO
set_option linter.unusedVariables false
set_option linter.unusedSimpArgs false
namespace Go.Proofs.YtihljjfnjclefaaDoor
open Go.ChangeShapes Go.WideShapes Go.ChangeAt Go.RowKit
attribute [local go_sem] nb_nonneg nb_lt8 nb_lt64
set_option maxRecDepth 100000

theorem pgR_zeros : pgR (List.replicate 4096 0#8) = ((0, 0#32, []), 4) := by
  have hk : pgKd (List.replicate 4096 0#8) = 0 := by
    unfold pgKd
    rw [List.getD_eq_getElem?_getD, List.getElem?_replicate, if_pos (by omega)]; rfl
  have hb : pgB 0 (pgNm (List.replicate 4096 0#8)) (List.drop 16 (List.replicate 4096 0#8)) = ([], 2) := by
    unfold pgB
    have : pgOk 0 (List.drop 16 (List.replicate 4096 0#8)) = false := by
      cases h : pgOk 0 (List.drop 16 (List.replicate 4096 0#8)) with
      | false => rfl
      | true => have := pgOk_iff.1 h; omega
    rw [this]; rfl
  unfold pgR
  rw [hk, hb, if_neg]
  rintro ⟨-, h⟩
  have := congrArg Prod.snd h
  simp at this
theorem pgB_8 : pgB 8 0#32 [] = ([], 2) := by unfold pgB; rw [if_neg (by decide)]
theorem pgB_long : pgB 1 0#32 (List.replicate 4081 0#8) = ([], 2) := by
  unfold pgB
  rw [if_neg]
  intro h
  have := (pgOk_iff.1 h).2.2
  rw [List.length_replicate] at this; omega
set_option maxHeartbeats 4000000 in
theorem pageNames_walk (w : World) : Calls Tryd.prog 6 #[] w fun e w' => e = .returned (.bool true) ∧ Below w.heap.size w w' := by
  have h1 := pg_Bytes 8 0#32 [] none 0 w (by simp) (Rd.nil _ _)
  rw [pgB_8] at h1
  have HC1 := Lib.hid h1
  obtain ⟨C1, hmk1, hC1⟩ := mk_bytes 4081 4081 rfl (by omega)
  have HK1 := Lib.hid (And.intro hmk1 hC1)
  obtain ⟨C2, hmk2, hC2⟩ := mk_bytes 4096 4096 rfl (by omega)
  have HK2 := Lib.hid (And.intro hmk2 hC2)
  clear h1 hmk1 hC1 hmk2 hC2
  go_enter Tryd.func6, Tryd.ntmps6
  go_wp2_with fail
  refine HC1.out.mono ?_
  rintro e w1 ⟨A1, c1, rfl, -, hb⟩
  have HF1 := Lib.hid (show FB w w1 from hb)
  have hq := HK1.out.1
  have h2 := pg_Bytes 1 0#32 (List.replicate 4081 0#8) (some ⟨w1.heap.size, 0, none⟩) 4081 (w1.alloc (.cells C1 5)) (by simp) (rd_mk HK1.out.2 _ _ rfl)
  rw [pgB_long, List.length_replicate] at h2
  have HC2 := Lib.hid h2
  clear h2 hb HC1
  go_wp2_with fail
  clear hq
  refine HC2.out.mono ?_
  rintro e w2 ⟨A2, c2, rfl, -, hb⟩
  have HF2 := Lib.hid (show FB w w2 from (HF1.out.alloc _).trans hb)
  have hq := HK2.out.1
  have h3 := pg_Read (List.replicate 4096 0#8) (some ⟨w2.heap.size, 0, none⟩) 4096 (w2.alloc (.cells C2 5)) (by simp) (by simp) (by simp [maxLen]) (rd_mk HK2.out.2 _ _ rfl)
  rw [pgR_zeros, List.length_replicate] at h3
  have HC3 := Lib.hid h3
  clear h3 hb HC2
  go_wp2_with fail
  clear hq
  refine HC3.out.mono ?_
  rintro e w3 ⟨A3, c3, rfl, -, -, -, hb⟩
  have HF3 := Lib.hid (show FB w (w3.alloc (.cells #[.int .i64 0, .int .u32 (nb 0#32), .slice A3 ([] : List Byte).length c3] 25)) from ((HF2.out.alloc _).trans hb).alloc _)
  clear hb HC3
  go_wp2_with fail
  generalize w3.alloc _ = w4 at *
  refine (pn_Load 0 _).mono ?_
  rintro e w5 ⟨rfl, rfl⟩
  go_wp2_with fail
  refine (dsk_New_ok 17 (by omega) (by omega) _).mono ?_
  rintro e w6 ⟨F, g, rfl, hd, hb, hF⟩
  have HD := Lib.hid hd
  have HF6 := Lib.hid (HF3.out.trans hb)
  have HN := Lib.hid (show ∀ x ∈ F, w.heap.size ≤ x from fun x hx => Nat.le_trans HF3.out.le (hF x hx))
  clear hd hb hF HF3
  go_wp2_with fail
  refine (pg_Load HD.out 2).mono ?_
  rintro e w7 ⟨A7, c7, rfl, -, -, hd, ht, -, -⟩
  rw [show sdLoad ⟨List.replicate (512 * 17) 0#8, [], none⟩ 17 2 = ([], 2, ⟨List.replicate (512 * 17) 0#8, [], none⟩) from by unfold sdLoad; rw [if_pos (by unfold pgOut; omega)]] at hd ⊢
  have HD7 := Lib.hid hd
  have HF7 := Lib.hid (HF6.out.ts ht HN.out)
  clear hd ht HD HF6
  go_wp2_with fail
  refine (pg_lives _).mono ?_
  rintro e w8 ⟨rfl, hb⟩
  have HD8 := Lib.hid (HD7.out.fb hb)
  have HF8 := Lib.hid (HF7.out.trans hb)
  clear hb HD7 HF7
  go_wp2_with fail
  refine (pn_Save 0 (.slice none 0 0) _).mono ?_
  rintro e w9 ⟨rfl, hb⟩
  have HD9 := Lib.hid (HD8.out.fb hb)
  have HF9 := Lib.hid (HF8.out.trans hb)
  have h9 := pg_Save HD9.out 0 none 0 [] (by simp) (by simp) (Rd.nil _ _) (fun ad ha => by cases ha)
  rw [sdSave_bad (by simp)] at h9
  have HC9 := Lib.hid h9
  clear hb h9 HD8 HF8
  go_wp2_with fail
  refine HC9.out.mono ?_
  rintro e w10 ⟨rfl, F2, hf2, hd, ht⟩
  have HD10 := Lib.hid hd
  have HF10 := Lib.hid (HF9.out.ts ht HN.out)
  clear hf2 hd ht HD9 HF9 HC9
  go_wp2_with fail
  refine (pg_Pages HD10.out).mono ?_
  rintro e w11 ⟨rfl, rfl⟩
  go_wp2_with fail
  refine (pn_Pages _).mono ?_
  rintro e w12 ⟨rfl, rfl⟩
  go_wp2
  go_ret
  exact ⟨rfl, HF10.out⟩
end Go.Proofs.YtihljjfnjclefaaDoor
