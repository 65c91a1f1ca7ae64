/- The reference's disk: the walk through Write. -/
import Derived.Test.YtbedpjpddcjpkaaRfg
set_option linter.unusedVariables false
set_option linter.unusedSimpArgs false
namespace Go.Proofs.Ytbedpjpddcjpkaa
open Go.ChangeShapes Go.WideShapes Go.ChangeAt Go.RowKit Go.MapKept
set_option maxRecDepth 100000

section
variable {w w' : World} {F F' : List Nat} {g n : Nat} {D : DiskSt}
set_option maxHeartbeats 2000000 in
theorem ref_Write (h : RDsk w F g n D) (k : Int) (A : Option Addr) (m ca : Nat) (xs : List Byte) (hm : m = xs.length) (hl : xs.length ≤ 100000000000) (hr : Rd w A xs) (hAF : ∀ ad, A = some ad → ad.block ∉ F) :
    Calls Try.prog 29 #[.pointer (some ⟨g, 0, none⟩), .int .i64 k, .slice A m ca] w fun e w' => e = .returned (.int .i64 (sdWrite D n k xs).1) ∧ RRes w F g n (sdWrite D n k xs).2 w' := by
  subst hm
  have H := Lib.hid h
  have HR := Lib.hid hr
  unfold sdWrite
  by_cases hneg : k < 0
  · rw [if_pos (.inl hneg)]
    clear h hr
    go_enter Try.func29, Try.ntmps29
    go_wp2
    go_ret
    exact ⟨rfl, F, fun x hx => .inl hx, H.out, TS.refl _ _⟩
  · by_cases hbig : (n : Int) ≤ k
    · rw [if_pos (.inr (.inl hbig))]
      clear h hr
      go_enter Try.func29, Try.ntmps29
      go_wp2_with fail
      refine (ref_Sectors H.out).mono ?_
      rintro e w1 ⟨rfl, rfl⟩
      go_wp2
      go_ret
      exact ⟨rfl, F, fun x hx => .inl hx, H.out, TS.refl _ _⟩
    · by_cases hlen : xs.length = 512
      · rw [if_neg (by omega)]
        have HFA := Lib.hid (ref_fails h)
        have HXL := Lib.hid hlen
        cases hff : (ffail D.fuse).1 with
        | true =>
          rw [if_pos rfl]
          rw [hff] at HFA
          clear h hff hr
          go_enter Try.func29, Try.ntmps29
          go_wp2_with fail
          refine (ref_Sectors H.out).mono ?_
          rintro e w1 ⟨rfl, rfl⟩
          go_wp2_with fail
          refine HFA.out.mono ?_
          rintro e w1 ⟨rfl, hd, ht⟩
          have HD1 := Lib.hid hd
          have HT1 := Lib.hid ht
          clear hd ht
          go_wp2
          go_ret
          exact ⟨rfl, F, fun x hx => .inl hx, HD1.out, HT1.out⟩
        | false =>
          rw [if_neg (by simp)]
          rw [hff] at HFA
          generalize (ffail D.fuse).2 = fz at *
          have hk0 : 0 ≤ k := by omega
          have hkn : k < (n : Int) := by omega
          rw [hlen]
          clear h hff hr hlen
          go_enter Try.func29, Try.ntmps29
          go_wp2_with fail
          refine (ref_Sectors H.out).mono ?_
          rintro e w1 ⟨rfl, rfl⟩
          go_wp2_with fail
          refine HFA.out.mono ?_
          rintro e w1 ⟨rfl, hd, ht⟩
          have HD1 := Lib.hid hd
          have HT1 := Lib.hid ht
          have HR1 := Lib.hid (ht.rd HR.out hAF)
          have HC := Lib.hid (cfi_spec D.M k)
          clear hd ht
          go_wp2_with (at_builtin; refine wpList_append_bytes rfl _ _ rfl w1.heap.size _ [] (OwnV.lit _ w1 [] (by simp)) rfl A ca xs (by rw [HXL.out]; rfl) (HR1.out.alloc _) (by have := HXL.out; simp; omega) (by simp) ?_; intro v' w3 ho hg _; have HO := Lib.hid ho; have HG := Lib.hid hg; clear ho hg)
          have ho := HO.out
          rw [List.nil_append] at ho
          obtain ⟨A3, c3, rfl, -⟩ := ho.form
          rw [HXL.out] at ho ⊢
          have HO3 := Lib.hid (Own.info ho)
          have HF3 := Lib.hid (show FB w1 w3 from ((FB.refl w1).alloc _).grown HG.out (by simp [Value.ownBlock]))
          have HD3 := Lib.hid (HD1.out.fb HF3.out)
          clear ho HO HG
          refine (ref_find HD3.out k).mono ?_
          rintro e w4 ⟨rfl, rfl⟩
          obtain ⟨gb, c, NA, nc, CA, cc, V, hD⟩ := HD3.out
          have hDlt := HD1.out.lt
          have HX := Lib.hid (show Rd w3 A3 xs ∧ c3 ≤ maxLen ∧ ∀ ad, A3 = some ad → ad.block < w3.heap.size ∧ ad.block ∉ F from
            ⟨HO3.out.2.2.1, HO3.out.2.1, fun ad ha => ⟨(HO3.out.2.2.2.2 ad ha).2, fun hm => by have h1 := (HO3.out.2.2.2.2 ad ha).1; have h2 := hDlt _ hm; omega⟩⟩)
          have HC3 := Lib.hid (show 512 ≤ c3 from by have := HO3.out.1; rw [HXL.out] at this; exact this)
          have HA3 := Lib.hid (show ∀ x ∈ optBlk A3, w1.heap.size ≤ x from fun x hx => by
            cases A3 with
            | none => cases hx
            | some ad =>
              simp only [optBlk, Option.toList_some, List.map_cons, List.map_nil, List.mem_singleton] at hx
              subst hx
              exact (HO3.out.2.2.2.2 ad rfl).1)
          have hmlx := hD.mlen
          have HMLN := Lib.hid (Nat.le_trans hmlx hD.ok.n2)
          obtain ⟨q0, q1, q2, q3⟩ := row4 hD.row
          simp only at q0 q1 q2 q3
          clear hDlt hmlx
          rcases HC.out with ⟨h1, h2, h3, -⟩ | ⟨i, x, h1, h2, h3, h4, h5, -⟩
          · rw [show cfiZ D.M k = -1 from by unfold cfiZ; rw [h1]]
            have HPUT := Lib.hid (h3 xs)
            have HNO := Lib.hid h2
            have HDg := Lib.hid hD
            clear h1 h2 h3 hD HC
            go_wp2_with fail
            obtain ⟨W3, hW3⟩ : ∃ W3 : World, W3 = w3 := ⟨_, rfl⟩
            rw [← hW3]
            refine region_schB (E := TS (optBlk NA ++ optBlk CA)) ([(0, true), (1, true), (2, true), (3, true), (4, true), (6, true), (9, true), (10, true), (11, true), (13, true)]) ([(5, true), (12, true)]) (.two [(7, false)] (.two [(8, false), (14, false), (15, false)] .leaf [(14, false), (8, false), (15, false)] .leaf) [(14, false), (7, false), (8, false), (15, false)] .leaf) ([(16, true), (17, true), (18, false), (19, true), (20, true), (21, false)]) (by kernel_rfl) (TS.refl _) (fun _ _ _ h k => TS.then h k) (fun _ _ d _ _ h => by cases d <;> exact h) (by kernel_rfl) ?_
            intro ops hops0
            have hops := Lib.hid hops0
            clear hops0
            have HD : FB W3 W3.drew := (FB.refl _).drew
            generalize W3.drew = wF3 at *
            rw [hW3] at HD
            clear hW3
            have HQ := Lib.hid (row4 (HDg.out.fb HD).row)
            have HGX := Lib.hid (show g ∉ optBlk NA ++ optBlk CA from by have := HDg.out.disj; simp [this.2.1, this.2.2.1])
            clear q0 q1 q2 q3
            repeat (refine sch_take (o := ?_) (v := ?_) (a' := ?_) (at_of hops.out ?_) ?_ (fun W hW => ?_) ?_ ?_; rotate_left 3; (focus (simp only [List.getElem?_toArray, List.getElem?_cons_zero, List.getElem?_cons_succ]; rfl)); (focus (rw [hops.out]; rfl)); (focus (go_simp; with_reducible rfl)); (focus (simp only [Act.put, List.setIfInBounds_toArray, List.set_cons_zero, List.set_cons_succ]; rfl)))
            refine sch_done ?_
            refine schB_pre ?_
            repeat (refine sch_take (o := ?_) (v := ?_) (a' := ?_) (at_of hops.out ?_) ?_ (fun W hW => ?_) ?_ ?_; rotate_left 3; (focus (simp only [List.getElem?_toArray, List.getElem?_cons_zero, List.getElem?_cons_succ]; rfl)); (focus (rw [hops.out]; rfl)); (focus (have u1 := TS.cell hW HQ.out.2.1 HGX.out; have u2 := TS.cell hW HQ.out.2.2.1 HGX.out; go_simp; with_reducible rfl)); (focus (simp only [Act.put, List.setIfInBounds_toArray, List.set_cons_zero, List.set_cons_succ]; rfl)))
            refine sch_done ?_
            refine schB_two ?_ ?_
            · (refine sch_run (o := ?_) (v := ?_) (a' := ?_) (w' := ?_) (at_of hops.out ?_) ?_ ?_ ?_ ?_ ?_; rotate_left 4; (focus (simp only [List.getElem?_toArray, List.getElem?_cons_zero, List.getElem?_cons_succ]; rfl)); (focus (rw [hops.out]; rfl)); (focus (go_simp; constructor <;> with_reducible rfl)); (focus (exact TS.of ((FB.refl _).alloc _))); (focus (simp only [Act.put, List.setIfInBounds_toArray, List.set_cons_zero, List.set_cons_succ]; rfl)))
              refine sch_done ?_
              refine schB_two ?_ ?_
              · have HFA := Lib.hid (HD.alloc (.cells #[.int .i64 k] 3))
                have HKA := Lib.hid (show RdV (wF3.alloc (.cells #[.int .i64 k] 3)) (some ⟨wF3.heap.size, 0, none⟩) [.int .i64 k] from RdV.lit wF3 [.int .i64 k] 3)
                generalize hwA : wF3.alloc (.cells #[.int .i64 k] 3) = wA at *
                clear hwA
                (refine sch_append (o := ?_) (at_of hops.out ?_) ?_ (.tmp 44) (.tmp 46) 46 3 8 (.int .i64 0) Try.underlying46 info_int rfl ?_ 0 (.slice NA D.M.length nc) (D.M.map fun p => .int .i64 p.1) (HDg.out.fb HFA.out).keys ?_ _ 1 1 [.int .i64 k] rfl ?_ HKA.out (fun u hu => by simp only [List.mem_singleton] at hu; subst hu; rfl) (by have := HMLN.out; simp [maxLen]; omega) (by have := HMLN.out; simp; omega) (Nat.zero_le _) ?_; rotate_left 1; (focus (simp only [List.getElem?_toArray, List.getElem?_cons_zero, List.getElem?_cons_succ]; rfl)); (focus (rw [hops.out]; rfl)); (focus rfl); (focus rfl); (focus rfl))
                intro v' wB hoN hgN hlN
                obtain ⟨NA', nc', rfl, -⟩ := OwnV.form hoN
                simp only [List.length_append, List.length_map, List.length_cons, List.length_nil, Nat.zero_add] at hoN hlN ⊢
                have HON := Lib.hid hoN
                have HGN := Lib.hid hgN
                have HLN := Lib.hid hlN
                clear hoN hgN hlN
                refine ⟨(TS.refl _ _).trans (ts_grown HGN.out) (fun x hx => .inl (by simp [hx])), ?_⟩
                intro a' ha'
                simp only [Act.put, List.setIfInBounds_toArray, List.set_cons_zero, List.set_cons_succ] at ha'
                subst ha'
                (refine sch_run (o := ?_) (v := ?_) (a' := ?_) (w' := ?_) (at_of hops.out ?_) ?_ ?_ ?_ ?_ ?_; rotate_left 4; (focus (simp only [List.getElem?_toArray, List.getElem?_cons_zero, List.getElem?_cons_succ]; rfl)); (focus (rw [hops.out]; rfl)); (focus (go_simp; constructor <;> with_reducible rfl)); (focus (exact TS.of ((FB.refl _).alloc _))); (focus (simp only [Act.put, List.setIfInBounds_toArray, List.set_cons_zero, List.set_cons_succ]; rfl)))
                have HFC := Lib.hid ((FB.refl wB).alloc (.cells #[.slice A3 512 c3] 34))
                have HVC := Lib.hid (show RdV (wB.alloc (.cells #[.slice A3 512 c3] 34)) (some ⟨wB.heap.size, 0, none⟩) [.slice A3 512 c3] from RdV.lit wB [.slice A3 512 c3] 34)
                generalize hwC : wB.alloc (.cells #[.slice A3 512 c3] 34) = wC at *
                clear hwC
                have HRC := Lib.hid (show OwnV 34 wC 0 (.slice CA D.M.length cc) (V.map (·.2)) from (TS.of (F := []) HFC.out).ownV ((ts_grown HGN.out).ownV (HDg.out.fb HFA.out).rows (fun b hb hm => HDg.out.disj.1 b hm (own_out hb))) (by simp))
                have HVL := Lib.hid (show (V.map (·.2)).length = D.M.length from by rw [List.length_map, HDg.out.vals.len])
                (refine sch_append (o := ?_) (at_of hops.out ?_) ?_ (.tmp 51) (.tmp 53) 33 34 24 (.slice none 0 0) Try.underlying33 info_bs rfl ?_ 0 (.slice CA D.M.length cc) (V.map (·.2)) HRC.out ?_ _ 1 1 [.slice A3 512 c3] rfl ?_ HVC.out (fun u hu => by simp only [List.mem_singleton] at hu; subst hu; rfl) (by rw [HVL.out]; have := HMLN.out; simp [maxLen]; omega) (by rw [HVL.out]; have := HMLN.out; simp; omega) (Nat.zero_le _) ?_; rotate_left 1; (focus (simp only [List.getElem?_toArray, List.getElem?_cons_zero, List.getElem?_cons_succ]; rfl)); (focus (rw [hops.out]; rfl)); (focus rfl); (focus rfl); (focus rfl))
                intro v' wD hoC hgC hlC
                obtain ⟨CA', cc', rfl, -⟩ := OwnV.form hoC
                simp only [List.length_append, HVL.out, List.length_cons, List.length_nil, Nat.zero_add] at hoC hlC ⊢
                have HOC := Lib.hid hoC
                have HGC := Lib.hid hgC
                have HLC := Lib.hid hlC
                clear hoC hgC hlC
                refine ⟨(TS.refl _ _).trans (ts_grown HGC.out) (fun x hx => .inl (by simp [hx])), ?_⟩
                intro a' ha'
                simp only [Act.put, List.setIfInBounds_toArray, List.set_cons_zero, List.set_cons_succ] at ha'
                subst ha'
                refine sch_done ?_
                refine schB_leaf ?_
                have HTD := Lib.hid (show TS (optBlk NA ++ optBlk CA) w3 wD from ((((TS.of (F := optBlk NA ++ optBlk CA) HFA.out).trans (ts_grown HGN.out) (fun x hx => .inl (by simp [hx]))).then (TS.of HFC.out)).trans (ts_grown HGC.out) (fun x hx => .inl (by simp [hx]))))
                have HRWD := Lib.hid ((HTD.out.block g (Array.getElem?_eq_some_iff.1 HDg.out.row).1 (by have := HDg.out.disj; simp [this.2.1, this.2.2.1])).trans HDg.out.row)
                have HRWE := Lib.hid (heap_setCell_same wD g 1 _ _ (.slice NA' (D.M.length + 1) nc') HRWD.out)
                obtain ⟨F4, hF4, hD4, hT4⟩ := HDg.out.grow HFA.out HON.out HGN.out HLN.out HFC.out HOC.out HGC.out HLC.out hk0 hkn HNO.out HXL.out HX.out.1 HC3.out HX.out.2.1 HX.out.2.2
                have HRES := Lib.hid (show RRes w F g n { D with fuse := fz, M := cput D.M k xs } ((wD.setCell ⟨g, 1, none⟩ (.slice NA' (D.M.length + 1) nc')).setCell ⟨g, 2, none⟩ (.slice CA' (D.M.length + 1) cc')) from by
                  refine ⟨F4, fun y hy => ?_, ⟨gb, c, NA', nc', CA', cc', _, by rw [HPUT.out]; exact hD4⟩, HT1.out.then ((TS.of HF3.out).then hT4)⟩
                  rcases hF4 y hy with h | h | h
                  · exact .inl h
                  · exact .inr (Nat.le_trans HT1.out.size (HA3.out y h))
                  · exact .inr (Nat.le_trans HT1.out.size (Nat.le_trans HF3.out.le h)))
                clear hF4 hD4 hT4
                repeat (refine sch_take (o := ?_) (v := ?_) (a' := ?_) (at_of hops.out ?_) ?_ (fun W hW => ?_) ?_ ?_; rotate_left 3; (focus (simp only [List.getElem?_toArray, List.getElem?_cons_zero, List.getElem?_cons_succ]; rfl)); (focus (rw [hops.out]; rfl)); (focus (go_simp; with_reducible rfl)); (focus (simp only [Act.put, List.setIfInBounds_toArray, List.set_cons_zero, List.set_cons_succ]; rfl)))
                obtain ⟨s0, s1, s2, s3⟩ := row4 HRWD.out
                have t1 := frozen_row _ HRWD.out 1
                (refine sch_store (o := ?_) (at_of hops.out ?_) ?_ 46 (.tmp 56) (.tmp 47) ?_ ?_ ⟨g, 1, none⟩ (.slice NA' (D.M.length + 1) nc') ?_ ?_ ?_ trivial ?_; rotate_left 1; (focus (simp only [List.getElem?_toArray, List.getElem?_cons_zero, List.getElem?_cons_succ]; rfl)); (focus (rw [hops.out]; rfl)); (focus rfl); (focus rfl); (focus rfl); (focus rfl); (focus (go_simp)))
                clear s0 s1 s2 s3 t1
                obtain ⟨s0, s1, s2, s3⟩ := row4 HRWE.out
                have t2 := frozen_row _ HRWE.out 2
                repeat (refine sch_take (o := ?_) (v := ?_) (a' := ?_) (at_of hops.out ?_) ?_ (fun W hW => ?_) ?_ ?_; rotate_left 3; (focus (simp only [List.getElem?_toArray, List.getElem?_cons_zero, List.getElem?_cons_succ]; rfl)); (focus (rw [hops.out]; rfl)); (focus (go_simp; with_reducible rfl)); (focus (simp only [Act.put, List.setIfInBounds_toArray, List.set_cons_zero, List.set_cons_succ]; rfl)))
                (refine sch_store (o := ?_) (at_of hops.out ?_) ?_ 33 (.tmp 58) (.tmp 54) ?_ ?_ ⟨g, 2, none⟩ (.slice CA' (D.M.length + 1) cc') ?_ ?_ ?_ trivial ?_; rotate_left 1; (focus (simp only [List.getElem?_toArray, List.getElem?_cons_zero, List.getElem?_cons_succ]; rfl)); (focus (rw [hops.out]; rfl)); (focus rfl); (focus rfl); (focus rfl); (focus rfl); (focus (go_simp)))
                refine sch_done ?_
                clear s0 s1 s2 s3 t2 hops
                go_wp2
                go_ret
                exact ⟨rfl, HRES.out⟩
              · (refine sch_run (o := ?_) (v := ?_) (a' := ?_) (w' := ?_) (at_of hops.out ?_) ?_ ?_ ?_ ?_ ?_; rotate_left 4; (focus (simp only [List.getElem?_toArray, List.getElem?_cons_zero, List.getElem?_cons_succ]; rfl)); (focus (rw [hops.out]; rfl)); (focus (go_simp; constructor <;> with_reducible rfl)); (focus (exact TS.of ((FB.refl _).alloc _))); (focus (simp only [Act.put, List.setIfInBounds_toArray, List.set_cons_zero, List.set_cons_succ]; rfl)))
                have HFA := Lib.hid ((HD.alloc (.cells #[.int .i64 k] 3)).alloc (.cells #[.slice A3 512 c3] 34))
                have HKA := Lib.hid (show RdV ((wF3.alloc (.cells #[.int .i64 k] 3)).alloc (.cells #[.slice A3 512 c3] 34)) (some ⟨wF3.heap.size, 0, none⟩) [.int .i64 k] from (RdV.lit wF3 [.int .i64 k] 3).alloc _)
                have HVA := Lib.hid (show RdV ((wF3.alloc (.cells #[.int .i64 k] 3)).alloc (.cells #[.slice A3 512 c3] 34)) (some ⟨wF3.heap.size + 1, 0, none⟩) [.slice A3 512 c3] from RdV.lit (wF3.alloc (.cells #[.int .i64 k] 3)) [.slice A3 512 c3] 34)
                generalize hwA : (wF3.alloc (.cells #[.int .i64 k] 3)).alloc (.cells #[.slice A3 512 c3] 34) = wA at *
                clear hwA
                (refine sch_append (o := ?_) (at_of hops.out ?_) ?_ (.tmp 44) (.tmp 46) 46 3 8 (.int .i64 0) Try.underlying46 info_int rfl ?_ 0 (.slice NA D.M.length nc) (D.M.map fun p => .int .i64 p.1) (HDg.out.fb HFA.out).keys ?_ _ 1 1 [.int .i64 k] rfl ?_ HKA.out (fun u hu => by simp only [List.mem_singleton] at hu; subst hu; rfl) (by have := HMLN.out; simp [maxLen]; omega) (by have := HMLN.out; simp; omega) (Nat.zero_le _) ?_; rotate_left 1; (focus (simp only [List.getElem?_toArray, List.getElem?_cons_zero, List.getElem?_cons_succ]; rfl)); (focus (rw [hops.out]; rfl)); (focus rfl); (focus rfl); (focus rfl))
                intro v' wB hoN hgN hlN
                obtain ⟨NA', nc', rfl, -⟩ := OwnV.form hoN
                simp only [List.length_append, List.length_map, List.length_cons, List.length_nil, Nat.zero_add] at hoN hlN ⊢
                have HON := Lib.hid hoN
                have HGN := Lib.hid hgN
                have HLN := Lib.hid hlN
                clear hoN hgN hlN
                refine ⟨(TS.refl _ _).trans (ts_grown HGN.out) (fun x hx => .inl (by simp [hx])), ?_⟩
                intro a' ha'
                simp only [Act.put, List.setIfInBounds_toArray, List.set_cons_zero, List.set_cons_succ] at ha'
                subst ha'
                have HFC := Lib.hid (FB.refl wB)
                obtain ⟨wC, hwC⟩ : ∃ wC : World, wC = wB := ⟨_, rfl⟩
                have HVC := Lib.hid (show RdV wC (some ⟨wF3.heap.size + 1, 0, none⟩) [.slice A3 512 c3] from by
                  rw [hwC]
                  refine RdV.move HVA.out fun a v e hc => (ts_grown HGN.out).cell hc (fun hm => ?_)
                  simp at e
                  rw [← e] at hm
                  have h1 := HDg.out.lt (wF3.heap.size + 1) (HDg.out.mem (wF3.heap.size + 1) (by simp [rctl, hm]))
                  have h2 := HD.le
                  omega)
                rw [← hwC] at HFC ⊢
                have HFC := Lib.hid (show FB wB wC from by rw [hwC]; exact FB.refl _)
                clear hwC
                have HRC := Lib.hid (show OwnV 34 wC 0 (.slice CA D.M.length cc) (V.map (·.2)) from (TS.of (F := []) HFC.out).ownV ((ts_grown HGN.out).ownV (HDg.out.fb HFA.out).rows (fun b hb hm => HDg.out.disj.1 b hm (own_out hb))) (by simp))
                have HVL := Lib.hid (show (V.map (·.2)).length = D.M.length from by rw [List.length_map, HDg.out.vals.len])
                (refine sch_append (o := ?_) (at_of hops.out ?_) ?_ (.tmp 51) (.tmp 53) 33 34 24 (.slice none 0 0) Try.underlying33 info_bs rfl ?_ 0 (.slice CA D.M.length cc) (V.map (·.2)) HRC.out ?_ _ 1 1 [.slice A3 512 c3] rfl ?_ HVC.out (fun u hu => by simp only [List.mem_singleton] at hu; subst hu; rfl) (by rw [HVL.out]; have := HMLN.out; simp [maxLen]; omega) (by rw [HVL.out]; have := HMLN.out; simp; omega) (Nat.zero_le _) ?_; rotate_left 1; (focus (simp only [List.getElem?_toArray, List.getElem?_cons_zero, List.getElem?_cons_succ]; rfl)); (focus (rw [hops.out]; rfl)); (focus rfl); (focus rfl); (focus rfl))
                intro v' wD hoC hgC hlC
                obtain ⟨CA', cc', rfl, -⟩ := OwnV.form hoC
                simp only [List.length_append, HVL.out, List.length_cons, List.length_nil, Nat.zero_add] at hoC hlC ⊢
                have HOC := Lib.hid hoC
                have HGC := Lib.hid hgC
                have HLC := Lib.hid hlC
                clear hoC hgC hlC
                refine ⟨(TS.refl _ _).trans (ts_grown HGC.out) (fun x hx => .inl (by simp [hx])), ?_⟩
                intro a' ha'
                simp only [Act.put, List.setIfInBounds_toArray, List.set_cons_zero, List.set_cons_succ] at ha'
                subst ha'
                refine sch_done ?_
                refine schB_leaf ?_
                have HTD := Lib.hid (show TS (optBlk NA ++ optBlk CA) w3 wD from ((((TS.of (F := optBlk NA ++ optBlk CA) HFA.out).trans (ts_grown HGN.out) (fun x hx => .inl (by simp [hx]))).then (TS.of HFC.out)).trans (ts_grown HGC.out) (fun x hx => .inl (by simp [hx]))))
                have HRWD := Lib.hid ((HTD.out.block g (Array.getElem?_eq_some_iff.1 HDg.out.row).1 (by have := HDg.out.disj; simp [this.2.1, this.2.2.1])).trans HDg.out.row)
                have HRWE := Lib.hid (heap_setCell_same wD g 1 _ _ (.slice NA' (D.M.length + 1) nc') HRWD.out)
                obtain ⟨F4, hF4, hD4, hT4⟩ := HDg.out.grow HFA.out HON.out HGN.out HLN.out HFC.out HOC.out HGC.out HLC.out hk0 hkn HNO.out HXL.out HX.out.1 HC3.out HX.out.2.1 HX.out.2.2
                have HRES := Lib.hid (show RRes w F g n { D with fuse := fz, M := cput D.M k xs } ((wD.setCell ⟨g, 1, none⟩ (.slice NA' (D.M.length + 1) nc')).setCell ⟨g, 2, none⟩ (.slice CA' (D.M.length + 1) cc')) from by
                  refine ⟨F4, fun y hy => ?_, ⟨gb, c, NA', nc', CA', cc', _, by rw [HPUT.out]; exact hD4⟩, HT1.out.then ((TS.of HF3.out).then hT4)⟩
                  rcases hF4 y hy with h | h | h
                  · exact .inl h
                  · exact .inr (Nat.le_trans HT1.out.size (HA3.out y h))
                  · exact .inr (Nat.le_trans HT1.out.size (Nat.le_trans HF3.out.le h)))
                clear hF4 hD4 hT4
                repeat (refine sch_take (o := ?_) (v := ?_) (a' := ?_) (at_of hops.out ?_) ?_ (fun W hW => ?_) ?_ ?_; rotate_left 3; (focus (simp only [List.getElem?_toArray, List.getElem?_cons_zero, List.getElem?_cons_succ]; rfl)); (focus (rw [hops.out]; rfl)); (focus (go_simp; with_reducible rfl)); (focus (simp only [Act.put, List.setIfInBounds_toArray, List.set_cons_zero, List.set_cons_succ]; rfl)))
                obtain ⟨s0, s1, s2, s3⟩ := row4 HRWD.out
                have t1 := frozen_row _ HRWD.out 1
                (refine sch_store (o := ?_) (at_of hops.out ?_) ?_ 46 (.tmp 56) (.tmp 47) ?_ ?_ ⟨g, 1, none⟩ (.slice NA' (D.M.length + 1) nc') ?_ ?_ ?_ trivial ?_; rotate_left 1; (focus (simp only [List.getElem?_toArray, List.getElem?_cons_zero, List.getElem?_cons_succ]; rfl)); (focus (rw [hops.out]; rfl)); (focus rfl); (focus rfl); (focus rfl); (focus rfl); (focus (go_simp)))
                clear s0 s1 s2 s3 t1
                obtain ⟨s0, s1, s2, s3⟩ := row4 HRWE.out
                have t2 := frozen_row _ HRWE.out 2
                repeat (refine sch_take (o := ?_) (v := ?_) (a' := ?_) (at_of hops.out ?_) ?_ (fun W hW => ?_) ?_ ?_; rotate_left 3; (focus (simp only [List.getElem?_toArray, List.getElem?_cons_zero, List.getElem?_cons_succ]; rfl)); (focus (rw [hops.out]; rfl)); (focus (go_simp; with_reducible rfl)); (focus (simp only [Act.put, List.setIfInBounds_toArray, List.set_cons_zero, List.set_cons_succ]; rfl)))
                (refine sch_store (o := ?_) (at_of hops.out ?_) ?_ 33 (.tmp 58) (.tmp 54) ?_ ?_ ⟨g, 2, none⟩ (.slice CA' (D.M.length + 1) cc') ?_ ?_ ?_ trivial ?_; rotate_left 1; (focus (simp only [List.getElem?_toArray, List.getElem?_cons_zero, List.getElem?_cons_succ]; rfl)); (focus (rw [hops.out]; rfl)); (focus rfl); (focus rfl); (focus rfl); (focus rfl); (focus (go_simp)))
                refine sch_done ?_
                clear s0 s1 s2 s3 t2 hops
                go_wp2
                go_ret
                exact ⟨rfl, HRES.out⟩
            · (refine sch_run (o := ?_) (v := ?_) (a' := ?_) (w' := ?_) (at_of hops.out ?_) ?_ ?_ ?_ ?_ ?_; rotate_left 4; (focus (simp only [List.getElem?_toArray, List.getElem?_cons_zero, List.getElem?_cons_succ]; rfl)); (focus (rw [hops.out]; rfl)); (focus (go_simp; constructor <;> with_reducible rfl)); (focus (exact TS.of ((FB.refl _).alloc _))); (focus (simp only [Act.put, List.setIfInBounds_toArray, List.set_cons_zero, List.set_cons_succ]; rfl)))
              (refine sch_run (o := ?_) (v := ?_) (a' := ?_) (w' := ?_) (at_of hops.out ?_) ?_ ?_ ?_ ?_ ?_; rotate_left 4; (focus (simp only [List.getElem?_toArray, List.getElem?_cons_zero, List.getElem?_cons_succ]; rfl)); (focus (rw [hops.out]; rfl)); (focus (go_simp; constructor <;> with_reducible rfl)); (focus (exact TS.of ((FB.refl _).alloc _))); (focus (simp only [Act.put, List.setIfInBounds_toArray, List.set_cons_zero, List.set_cons_succ]; rfl)))
              have HFA := Lib.hid ((HD.alloc (.cells #[.slice A3 512 c3] 34)).alloc (.cells #[.int .i64 k] 3))
              have HVA := Lib.hid (show RdV ((wF3.alloc (.cells #[.slice A3 512 c3] 34)).alloc (.cells #[.int .i64 k] 3)) (some ⟨wF3.heap.size, 0, none⟩) [.slice A3 512 c3] from (RdV.lit wF3 [.slice A3 512 c3] 34).alloc _)
              have HKA := Lib.hid (show RdV ((wF3.alloc (.cells #[.slice A3 512 c3] 34)).alloc (.cells #[.int .i64 k] 3)) (some ⟨wF3.heap.size + 1, 0, none⟩) [.int .i64 k] from RdV.lit (wF3.alloc (.cells #[.slice A3 512 c3] 34)) [.int .i64 k] 3)
              generalize hwA : (wF3.alloc (.cells #[.slice A3 512 c3] 34)).alloc (.cells #[.int .i64 k] 3) = wA at *
              clear hwA
              (refine sch_append (o := ?_) (at_of hops.out ?_) ?_ (.tmp 44) (.tmp 46) 46 3 8 (.int .i64 0) Try.underlying46 info_int rfl ?_ 0 (.slice NA D.M.length nc) (D.M.map fun p => .int .i64 p.1) (HDg.out.fb HFA.out).keys ?_ _ 1 1 [.int .i64 k] rfl ?_ HKA.out (fun u hu => by simp only [List.mem_singleton] at hu; subst hu; rfl) (by have := HMLN.out; simp [maxLen]; omega) (by have := HMLN.out; simp; omega) (Nat.zero_le _) ?_; rotate_left 1; (focus (simp only [List.getElem?_toArray, List.getElem?_cons_zero, List.getElem?_cons_succ]; rfl)); (focus (rw [hops.out]; rfl)); (focus rfl); (focus rfl); (focus rfl))
              intro v' wB hoN hgN hlN
              obtain ⟨NA', nc', rfl, -⟩ := OwnV.form hoN
              simp only [List.length_append, List.length_map, List.length_cons, List.length_nil, Nat.zero_add] at hoN hlN ⊢
              have HON := Lib.hid hoN
              have HGN := Lib.hid hgN
              have HLN := Lib.hid hlN
              clear hoN hgN hlN
              refine ⟨(TS.refl _ _).trans (ts_grown HGN.out) (fun x hx => .inl (by simp [hx])), ?_⟩
              intro a' ha'
              simp only [Act.put, List.setIfInBounds_toArray, List.set_cons_zero, List.set_cons_succ] at ha'
              subst ha'
              have HFC := Lib.hid (FB.refl wB)
              obtain ⟨wC, hwC⟩ : ∃ wC : World, wC = wB := ⟨_, rfl⟩
              have HVC := Lib.hid (show RdV wC (some ⟨wF3.heap.size, 0, none⟩) [.slice A3 512 c3] from by
                rw [hwC]
                refine RdV.move HVA.out fun a v e hc => (ts_grown HGN.out).cell hc (fun hm => ?_)
                simp at e
                rw [← e] at hm
                have h1 := HDg.out.lt wF3.heap.size (HDg.out.mem wF3.heap.size (by simp [rctl, hm]))
                have h2 := HD.le
                omega)
              rw [← hwC] at HFC ⊢
              have HFC := Lib.hid (show FB wB wC from by rw [hwC]; exact FB.refl _)
              clear hwC
              have HRC := Lib.hid (show OwnV 34 wC 0 (.slice CA D.M.length cc) (V.map (·.2)) from (TS.of (F := []) HFC.out).ownV ((ts_grown HGN.out).ownV (HDg.out.fb HFA.out).rows (fun b hb hm => HDg.out.disj.1 b hm (own_out hb))) (by simp))
              have HVL := Lib.hid (show (V.map (·.2)).length = D.M.length from by rw [List.length_map, HDg.out.vals.len])
              (refine sch_append (o := ?_) (at_of hops.out ?_) ?_ (.tmp 51) (.tmp 53) 33 34 24 (.slice none 0 0) Try.underlying33 info_bs rfl ?_ 0 (.slice CA D.M.length cc) (V.map (·.2)) HRC.out ?_ _ 1 1 [.slice A3 512 c3] rfl ?_ HVC.out (fun u hu => by simp only [List.mem_singleton] at hu; subst hu; rfl) (by rw [HVL.out]; have := HMLN.out; simp [maxLen]; omega) (by rw [HVL.out]; have := HMLN.out; simp; omega) (Nat.zero_le _) ?_; rotate_left 1; (focus (simp only [List.getElem?_toArray, List.getElem?_cons_zero, List.getElem?_cons_succ]; rfl)); (focus (rw [hops.out]; rfl)); (focus rfl); (focus rfl); (focus rfl))
              intro v' wD hoC hgC hlC
              obtain ⟨CA', cc', rfl, -⟩ := OwnV.form hoC
              simp only [List.length_append, HVL.out, List.length_cons, List.length_nil, Nat.zero_add] at hoC hlC ⊢
              have HOC := Lib.hid hoC
              have HGC := Lib.hid hgC
              have HLC := Lib.hid hlC
              clear hoC hgC hlC
              refine ⟨(TS.refl _ _).trans (ts_grown HGC.out) (fun x hx => .inl (by simp [hx])), ?_⟩
              intro a' ha'
              simp only [Act.put, List.setIfInBounds_toArray, List.set_cons_zero, List.set_cons_succ] at ha'
              subst ha'
              refine sch_done ?_
              refine schB_leaf ?_
              have HTD := Lib.hid (show TS (optBlk NA ++ optBlk CA) w3 wD from ((((TS.of (F := optBlk NA ++ optBlk CA) HFA.out).trans (ts_grown HGN.out) (fun x hx => .inl (by simp [hx]))).then (TS.of HFC.out)).trans (ts_grown HGC.out) (fun x hx => .inl (by simp [hx]))))
              have HRWD := Lib.hid ((HTD.out.block g (Array.getElem?_eq_some_iff.1 HDg.out.row).1 (by have := HDg.out.disj; simp [this.2.1, this.2.2.1])).trans HDg.out.row)
              have HRWE := Lib.hid (heap_setCell_same wD g 1 _ _ (.slice NA' (D.M.length + 1) nc') HRWD.out)
              obtain ⟨F4, hF4, hD4, hT4⟩ := HDg.out.grow HFA.out HON.out HGN.out HLN.out HFC.out HOC.out HGC.out HLC.out hk0 hkn HNO.out HXL.out HX.out.1 HC3.out HX.out.2.1 HX.out.2.2
              have HRES := Lib.hid (show RRes w F g n { D with fuse := fz, M := cput D.M k xs } ((wD.setCell ⟨g, 1, none⟩ (.slice NA' (D.M.length + 1) nc')).setCell ⟨g, 2, none⟩ (.slice CA' (D.M.length + 1) cc')) from by
                refine ⟨F4, fun y hy => ?_, ⟨gb, c, NA', nc', CA', cc', _, by rw [HPUT.out]; exact hD4⟩, HT1.out.then ((TS.of HF3.out).then hT4)⟩
                rcases hF4 y hy with h | h | h
                · exact .inl h
                · exact .inr (Nat.le_trans HT1.out.size (HA3.out y h))
                · exact .inr (Nat.le_trans HT1.out.size (Nat.le_trans HF3.out.le h)))
              clear hF4 hD4 hT4
              repeat (refine sch_take (o := ?_) (v := ?_) (a' := ?_) (at_of hops.out ?_) ?_ (fun W hW => ?_) ?_ ?_; rotate_left 3; (focus (simp only [List.getElem?_toArray, List.getElem?_cons_zero, List.getElem?_cons_succ]; rfl)); (focus (rw [hops.out]; rfl)); (focus (go_simp; with_reducible rfl)); (focus (simp only [Act.put, List.setIfInBounds_toArray, List.set_cons_zero, List.set_cons_succ]; rfl)))
              obtain ⟨s0, s1, s2, s3⟩ := row4 HRWD.out
              have t1 := frozen_row _ HRWD.out 1
              (refine sch_store (o := ?_) (at_of hops.out ?_) ?_ 46 (.tmp 56) (.tmp 47) ?_ ?_ ⟨g, 1, none⟩ (.slice NA' (D.M.length + 1) nc') ?_ ?_ ?_ trivial ?_; rotate_left 1; (focus (simp only [List.getElem?_toArray, List.getElem?_cons_zero, List.getElem?_cons_succ]; rfl)); (focus (rw [hops.out]; rfl)); (focus rfl); (focus rfl); (focus rfl); (focus rfl); (focus (go_simp)))
              clear s0 s1 s2 s3 t1
              obtain ⟨s0, s1, s2, s3⟩ := row4 HRWE.out
              have t2 := frozen_row _ HRWE.out 2
              repeat (refine sch_take (o := ?_) (v := ?_) (a' := ?_) (at_of hops.out ?_) ?_ (fun W hW => ?_) ?_ ?_; rotate_left 3; (focus (simp only [List.getElem?_toArray, List.getElem?_cons_zero, List.getElem?_cons_succ]; rfl)); (focus (rw [hops.out]; rfl)); (focus (go_simp; with_reducible rfl)); (focus (simp only [Act.put, List.setIfInBounds_toArray, List.set_cons_zero, List.set_cons_succ]; rfl)))
              (refine sch_store (o := ?_) (at_of hops.out ?_) ?_ 33 (.tmp 58) (.tmp 54) ?_ ?_ ⟨g, 2, none⟩ (.slice CA' (D.M.length + 1) cc') ?_ ?_ ?_ trivial ?_; rotate_left 1; (focus (simp only [List.getElem?_toArray, List.getElem?_cons_zero, List.getElem?_cons_succ]; rfl)); (focus (rw [hops.out]; rfl)); (focus rfl); (focus rfl); (focus rfl); (focus rfl); (focus (go_simp)))
              refine sch_done ?_
              clear s0 s1 s2 s3 t2 hops
              go_wp2
              go_ret
              exact ⟨rfl, HRES.out⟩
          · rw [show cfiZ D.M k = (i : Int) from by unfold cfiZ; rw [h1]]
            obtain ⟨cb, A4, c4, rfl, r1, rf, -, -, -, -, -⟩ := hD.at h3
            obtain ⟨F4, hF4, hD4, hT4⟩ := hD.replaced h3 HXL.out HX.out.1 HC3.out HX.out.2.1 HX.out.2.2 rfl
            have hml : (D.M.length : Int) ≤ 32768 := by have := HMLN.out; simp only at this; omega
            have hil : (i : Int) < (D.M.length : Int) := by omega
            have HXX := Lib.hid (show x.length = 512 from (hD.ok.M _ (List.mem_of_getElem? h3)).2.2)
            have hi0 : ¬ (i : Int) < 0 := by omega
            have hi1 : (0 : Int) ≤ (i : Int) := by omega
            rw [HXX.out] at r1
            have HPUT := Lib.hid (h5 xs)
            have HRES := Lib.hid (show RRes w F g n { D with fuse := fz, M := cput D.M k xs } (w3.setCell ⟨cb, i, none⟩ (.slice A3 512 c3)) from by
              refine ⟨F4, fun y hy => ?_, ⟨gb, c, NA, nc, some ⟨cb, 0, none⟩, cc, V.set i (k, .slice A3 512 c3), by rw [HPUT.out]; exact hD4⟩, HT1.out.then ((TS.of HF3.out).then hT4)⟩
              rcases hF4 y hy with h | h
              · exact .inl h
              · exact .inr (Nat.le_trans HT1.out.size (HA3.out y h)))
            clear h1 h2 h3 h4 h5 hD hF4 hD4 hT4 HC
            go_wp2
            go_ret
            exact ⟨rfl, HRES.out⟩
      · rw [if_pos (.inr (.inr hlen))]
        have hne : ((xs.length : Int) != 512) = true := by simp; omega
        clear h hr hlen
        go_enter Try.func29, Try.ntmps29
        go_wp2_with fail
        refine (ref_Sectors H.out).mono ?_
        rintro e w1 ⟨rfl, rfl⟩
        go_wp2
        go_ret
        exact ⟨rfl, F, fun x hx => .inl hx, H.out, TS.refl _ _⟩
end
end Go.Proofs.Ytbedpjpddcjpkaa
