/- Walks and laws that the claim's last text stands on, several texts in one file: Rfh, RgE, Rfi, Rfj, Two. Under the hypotheses that each theorem states. -/
import Derived.Deep.DeepCutAuto
import Derived.Test.YtihljjfnjclefaaDoorMPageDiska
import Derived.Test.YtihljjfnjclefaaDoorMPageDiskb
import Derived.Test.YtihljjfnjclefaaDoorMPageDiskc
import Derived.Test.YtihljjfnjclefaaDoorMPageDiskd
import Derived.Test.YtihljjfnjclefaaDoorMPageDiske
import Derived.Test.YtihljjfnjclefaaDoorMPageDiskf
import Derived.Test.YtihljjfnjclefaaDoorMPageDiskg
import Derived.Test.YtihljjfnjclefaaDoorMPageDiskh
import Derived.Test.YtihljjfnjclefaaDoorMPageDiski
import Derived.Test.YtihljjfnjclefaaDoorMPageDiskj
import Derived.Test.YtihljjfnjclefaaDoorMPageDiskk
import Derived.Test.YtihljjfnjclefaaDoorMPageDiskl
/- The reference's disk: the walk through Write. -/
set_option linter.unusedVariables false
set_option linter.unusedSimpArgs false
namespace Go.Proofs.YtihljjfnjclefaaDoor
open Go.ChangeShapes Go.WideShapes Go.ChangeAt Go.RowKit Go.MapKept
set_option maxRecDepth 100000

section
variable {w w' : World} {F F' : List Nat} {g n : Nat} {D : DiskSt}
set_option maxHeartbeats 2000000 in
theorem ref_Write (h : RDsk w F g n D) (k : Int) (A : Option Addr) (m ca : Nat) (xs : List Byte) (hm : m = xs.length) (hl : xs.length ≤ 100000000000) (hr : Rd w A xs) (hAF : ∀ ad, A = some ad → ad.block ∉ F) :
    Calls Tryd.prog 57 #[.pointer (some ⟨g, 0, none⟩), .int .i64 k, .slice A m ca] w fun e w' => e = .returned (.int .i64 (sdWrite D n k xs).1) ∧ RRes w F g n (sdWrite D n k xs).2 w' := by
  subst hm
  have H := Lib.hid h
  have HR := Lib.hid hr
  unfold sdWrite
  by_cases hneg : k < 0
  · rw [if_pos (.inl hneg)]
    clear h hr
    go_enter Tryd.func57, Tryd.ntmps57
    go_wp2
    go_ret
    exact ⟨rfl, F, fun x hx => .inl hx, H.out, TS.refl _ _⟩
  · by_cases hbig : (n : Int) ≤ k
    · rw [if_pos (.inr (.inl hbig))]
      clear h hr
      go_enter Tryd.func57, Tryd.ntmps57
      go_wp2_with fail
      refine (ref_Sectors H.out).mono ?_
      rintro e w1 ⟨rfl, rfl⟩
      go_wp2
      go_ret
      exact ⟨rfl, F, fun x hx => .inl hx, H.out, TS.refl _ _⟩
    · by_cases hlen : xs.length = 512
      · rw [if_neg (by omega)]
        have HFA := Lib.hid (ref_fails h)
        have HXL := Lib.hid hlen
        cases hff : (ffail D.fuse).1 with
        | true =>
          rw [if_pos rfl]
          rw [hff] at HFA
          clear h hff hr
          go_enter Tryd.func57, Tryd.ntmps57
          go_wp2_with fail
          refine (ref_Sectors H.out).mono ?_
          rintro e w1 ⟨rfl, rfl⟩
          go_wp2_with fail
          refine HFA.out.mono ?_
          rintro e w1 ⟨rfl, hd, ht⟩
          have HD1 := Lib.hid hd
          have HT1 := Lib.hid ht
          clear hd ht
          go_wp2
          go_ret
          exact ⟨rfl, F, fun x hx => .inl hx, HD1.out, HT1.out⟩
        | false =>
          rw [if_neg (by simp)]
          rw [hff] at HFA
          generalize (ffail D.fuse).2 = fz at *
          have hk0 : 0 ≤ k := by omega
          have hkn : k < (n : Int) := by omega
          rw [hlen]
          clear h hff hr hlen
          go_enter Tryd.func57, Tryd.ntmps57
          go_wp2_with fail
          refine (ref_Sectors H.out).mono ?_
          rintro e w1 ⟨rfl, rfl⟩
          go_wp2_with fail
          refine HFA.out.mono ?_
          rintro e w1 ⟨rfl, hd, ht⟩
          have HD1 := Lib.hid hd
          have HT1 := Lib.hid ht
          have HR1 := Lib.hid (ht.rd HR.out hAF)
          have HC := Lib.hid (cfi_spec D.M k)
          clear hd ht
          go_wp2_with (at_builtin; refine wpList_append_bytes rfl _ _ rfl w1.heap.size _ [] (OwnV.lit _ w1 [] (by simp)) rfl A ca xs (by rw [HXL.out]; rfl) (HR1.out.alloc _) (by have := HXL.out; simp; omega) (by simp) ?_; intro v' w3 ho hg _; have HO := Lib.hid ho; have HG := Lib.hid hg; clear ho hg)
          have ho := HO.out
          rw [List.nil_append] at ho
          obtain ⟨A3, c3, rfl, -⟩ := ho.form
          rw [HXL.out] at ho ⊢
          have HO3 := Lib.hid (Own.info ho)
          have HF3 := Lib.hid (show FB w1 w3 from ((FB.refl w1).alloc _).grown HG.out (by simp [Value.ownBlock]))
          have HD3 := Lib.hid (HD1.out.fb HF3.out)
          clear ho HO HG
          refine (ref_find HD3.out k).mono ?_
          rintro e w4 ⟨rfl, rfl⟩
          obtain ⟨gb, c, NA, nc, CA, cc, V, hD⟩ := HD3.out
          have hDlt := HD1.out.lt
          have HX := Lib.hid (show Rd w3 A3 xs ∧ c3 ≤ maxLen ∧ ∀ ad, A3 = some ad → ad.block < w3.heap.size ∧ ad.block ∉ F from
            ⟨HO3.out.2.2.1, HO3.out.2.1, fun ad ha => ⟨(HO3.out.2.2.2.2 ad ha).2, fun hm => by have h1 := (HO3.out.2.2.2.2 ad ha).1; have h2 := hDlt _ hm; omega⟩⟩)
          have HC3 := Lib.hid (show 512 ≤ c3 from by have := HO3.out.1; rw [HXL.out] at this; exact this)
          have HA3 := Lib.hid (show ∀ x ∈ optBlk A3, w1.heap.size ≤ x from fun x hx => by
            cases A3 with
            | none => cases hx
            | some ad =>
              simp only [optBlk, Option.toList_some, List.map_cons, List.map_nil, List.mem_singleton] at hx
              subst hx
              exact (HO3.out.2.2.2.2 ad rfl).1)
          have hmlx := hD.mlen
          have HMLN := Lib.hid (Nat.le_trans hmlx hD.ok.n2)
          obtain ⟨q0, q1, q2, q3⟩ := row4 hD.row
          simp only at q0 q1 q2 q3
          clear hDlt hmlx
          rcases HC.out with ⟨h1, h2, h3, -⟩ | ⟨i, x, h1, h2, h3, h4, h5, -⟩
          · rw [show cfiZ D.M k = -1 from by unfold cfiZ; rw [h1]]
            have HPUT := Lib.hid (h3 xs)
            have HNO := Lib.hid h2
            have HDg := Lib.hid hD
            clear h1 h2 h3 hD HC
            go_wp2_with fail
            obtain ⟨W3, hW3⟩ : ∃ W3 : World, W3 = w3 := ⟨_, rfl⟩
            rw [← hW3]
            refine region_schB (E := TS (optBlk NA ++ optBlk CA)) ([(0, true), (1, true), (2, true), (3, true), (4, true), (6, true), (9, true), (10, true), (11, true), (13, true)]) ([(5, true), (12, true)]) (.two [(7, false)] (.two [(8, false), (14, false), (15, false)] .leaf [(14, false), (8, false), (15, false)] .leaf) [(14, false), (7, false), (8, false), (15, false)] .leaf) ([(16, true), (17, true), (18, false), (19, true), (20, true), (21, false)]) (by kernel_rfl) (TS.refl _) (fun _ _ _ h k => TS.then h k) (fun _ _ d _ _ h => by cases d <;> exact h) (by kernel_rfl) ?_
            intro ops hops0
            have hops := Lib.hid hops0
            clear hops0
            have HD : FB W3 W3.drew := (FB.refl _).drew
            generalize W3.drew = wF3 at *
            rw [hW3] at HD
            clear hW3
            have HQ := Lib.hid (row4 (HDg.out.fb HD).row)
            have HGX := Lib.hid (show g ∉ optBlk NA ++ optBlk CA from by have := HDg.out.disj; simp [this.2.1, this.2.2.1])
            clear q0 q1 q2 q3
            repeat (refine sch_take (o := ?_) (v := ?_) (a' := ?_) (at_of hops.out ?_) ?_ (fun W hW => ?_) ?_ ?_; rotate_left 3; (focus (simp only [List.getElem?_toArray, List.getElem?_cons_zero, List.getElem?_cons_succ]; rfl)); (focus (rw [hops.out]; rfl)); (focus (go_simp; with_reducible rfl)); (focus (simp only [Act.put, List.setIfInBounds_toArray, List.set_cons_zero, List.set_cons_succ]; rfl)))
            refine sch_done ?_
            refine schB_pre ?_
            repeat (refine sch_take (o := ?_) (v := ?_) (a' := ?_) (at_of hops.out ?_) ?_ (fun W hW => ?_) ?_ ?_; rotate_left 3; (focus (simp only [List.getElem?_toArray, List.getElem?_cons_zero, List.getElem?_cons_succ]; rfl)); (focus (rw [hops.out]; rfl)); (focus (have u1 := TS.cell hW HQ.out.2.1 HGX.out; have u2 := TS.cell hW HQ.out.2.2.1 HGX.out; go_simp; with_reducible rfl)); (focus (simp only [Act.put, List.setIfInBounds_toArray, List.set_cons_zero, List.set_cons_succ]; rfl)))
            refine sch_done ?_
            refine schB_two ?_ ?_
            · (refine sch_run (o := ?_) (v := ?_) (a' := ?_) (w' := ?_) (at_of hops.out ?_) ?_ ?_ ?_ ?_ ?_; rotate_left 4; (focus (simp only [List.getElem?_toArray, List.getElem?_cons_zero, List.getElem?_cons_succ]; rfl)); (focus (rw [hops.out]; rfl)); (focus (go_simp; constructor <;> with_reducible rfl)); (focus (exact TS.of ((FB.refl _).alloc _))); (focus (simp only [Act.put, List.setIfInBounds_toArray, List.set_cons_zero, List.set_cons_succ]; rfl)))
              refine sch_done ?_
              refine schB_two ?_ ?_
              · have HFA := Lib.hid (HD.alloc (.cells #[.int .i64 k] 3))
                have HKA := Lib.hid (show RdV (wF3.alloc (.cells #[.int .i64 k] 3)) (some ⟨wF3.heap.size, 0, none⟩) [.int .i64 k] from RdV.lit wF3 [.int .i64 k] 3)
                generalize hwA : wF3.alloc (.cells #[.int .i64 k] 3) = wA at *
                clear hwA
                (refine sch_append (o := ?_) (at_of hops.out ?_) ?_ (.tmp 44) (.tmp 46) 48 3 8 (.int .i64 0) Tryd.underlying48 info_int rfl ?_ 0 (.slice NA D.M.length nc) (D.M.map fun p => .int .i64 p.1) (HDg.out.fb HFA.out).keys ?_ _ 1 1 [.int .i64 k] rfl ?_ HKA.out (fun u hu => by simp only [List.mem_singleton] at hu; subst hu; rfl) (by have := HMLN.out; simp [maxLen]; omega) (by have := HMLN.out; simp; omega) (Nat.zero_le _) ?_; rotate_left 1; (focus (simp only [List.getElem?_toArray, List.getElem?_cons_zero, List.getElem?_cons_succ]; rfl)); (focus (rw [hops.out]; rfl)); (focus rfl); (focus rfl); (focus rfl))
                intro v' wB hoN hgN hlN
                obtain ⟨NA', nc', rfl, -⟩ := OwnV.form hoN
                simp only [List.length_append, List.length_map, List.length_cons, List.length_nil, Nat.zero_add] at hoN hlN ⊢
                have HON := Lib.hid hoN
                have HGN := Lib.hid hgN
                have HLN := Lib.hid hlN
                clear hoN hgN hlN
                refine ⟨(TS.refl _ _).trans (ts_grown HGN.out) (fun x hx => .inl (by simp [hx])), ?_⟩
                intro a' ha'
                simp only [Act.put, List.setIfInBounds_toArray, List.set_cons_zero, List.set_cons_succ] at ha'
                subst ha'
                (refine sch_run (o := ?_) (v := ?_) (a' := ?_) (w' := ?_) (at_of hops.out ?_) ?_ ?_ ?_ ?_ ?_; rotate_left 4; (focus (simp only [List.getElem?_toArray, List.getElem?_cons_zero, List.getElem?_cons_succ]; rfl)); (focus (rw [hops.out]; rfl)); (focus (go_simp; constructor <;> with_reducible rfl)); (focus (exact TS.of ((FB.refl _).alloc _))); (focus (simp only [Act.put, List.setIfInBounds_toArray, List.set_cons_zero, List.set_cons_succ]; rfl)))
                have HFC := Lib.hid ((FB.refl wB).alloc (.cells #[.slice A3 512 c3] 23))
                have HVC := Lib.hid (show RdV (wB.alloc (.cells #[.slice A3 512 c3] 23)) (some ⟨wB.heap.size, 0, none⟩) [.slice A3 512 c3] from RdV.lit wB [.slice A3 512 c3] 23)
                generalize hwC : wB.alloc (.cells #[.slice A3 512 c3] 23) = wC at *
                clear hwC
                have HRC := Lib.hid (show OwnV 23 wC 0 (.slice CA D.M.length cc) (V.map (·.2)) from (TS.of (F := []) HFC.out).ownV ((ts_grown HGN.out).ownV (HDg.out.fb HFA.out).rows (fun b hb hm => HDg.out.disj.1 b hm (own_out hb))) (by simp))
                have HVL := Lib.hid (show (V.map (·.2)).length = D.M.length from by rw [List.length_map, HDg.out.vals.len])
                (refine sch_append (o := ?_) (at_of hops.out ?_) ?_ (.tmp 51) (.tmp 53) 37 23 24 (.slice none 0 0) Tryd.underlying37 info_bs rfl ?_ 0 (.slice CA D.M.length cc) (V.map (·.2)) HRC.out ?_ _ 1 1 [.slice A3 512 c3] rfl ?_ HVC.out (fun u hu => by simp only [List.mem_singleton] at hu; subst hu; rfl) (by rw [HVL.out]; have := HMLN.out; simp [maxLen]; omega) (by rw [HVL.out]; have := HMLN.out; simp; omega) (Nat.zero_le _) ?_; rotate_left 1; (focus (simp only [List.getElem?_toArray, List.getElem?_cons_zero, List.getElem?_cons_succ]; rfl)); (focus (rw [hops.out]; rfl)); (focus rfl); (focus rfl); (focus rfl))
                intro v' wD hoC hgC hlC
                obtain ⟨CA', cc', rfl, -⟩ := OwnV.form hoC
                simp only [List.length_append, HVL.out, List.length_cons, List.length_nil, Nat.zero_add] at hoC hlC ⊢
                have HOC := Lib.hid hoC
                have HGC := Lib.hid hgC
                have HLC := Lib.hid hlC
                clear hoC hgC hlC
                refine ⟨(TS.refl _ _).trans (ts_grown HGC.out) (fun x hx => .inl (by simp [hx])), ?_⟩
                intro a' ha'
                simp only [Act.put, List.setIfInBounds_toArray, List.set_cons_zero, List.set_cons_succ] at ha'
                subst ha'
                refine sch_done ?_
                refine schB_leaf ?_
                have HTD := Lib.hid (show TS (optBlk NA ++ optBlk CA) w3 wD from ((((TS.of (F := optBlk NA ++ optBlk CA) HFA.out).trans (ts_grown HGN.out) (fun x hx => .inl (by simp [hx]))).then (TS.of HFC.out)).trans (ts_grown HGC.out) (fun x hx => .inl (by simp [hx]))))
                have HRWD := Lib.hid ((HTD.out.block g (Array.getElem?_eq_some_iff.1 HDg.out.row).1 (by have := HDg.out.disj; simp [this.2.1, this.2.2.1])).trans HDg.out.row)
                have HRWE := Lib.hid (heap_setCell_same wD g 1 _ _ (.slice NA' (D.M.length + 1) nc') HRWD.out)
                obtain ⟨F4, hF4, hD4, hT4⟩ := HDg.out.grow HFA.out HON.out HGN.out HLN.out HFC.out HOC.out HGC.out HLC.out hk0 hkn HNO.out HXL.out HX.out.1 HC3.out HX.out.2.1 HX.out.2.2
                have HRES := Lib.hid (show RRes w F g n { D with fuse := fz, M := cput D.M k xs } ((wD.setCell ⟨g, 1, none⟩ (.slice NA' (D.M.length + 1) nc')).setCell ⟨g, 2, none⟩ (.slice CA' (D.M.length + 1) cc')) from by
                  refine ⟨F4, fun y hy => ?_, ⟨gb, c, NA', nc', CA', cc', _, by rw [HPUT.out]; exact hD4⟩, HT1.out.then ((TS.of HF3.out).then hT4)⟩
                  rcases hF4 y hy with h | h | h
                  · exact .inl h
                  · exact .inr (Nat.le_trans HT1.out.size (HA3.out y h))
                  · exact .inr (Nat.le_trans HT1.out.size (Nat.le_trans HF3.out.le h)))
                clear hF4 hD4 hT4
                repeat (refine sch_take (o := ?_) (v := ?_) (a' := ?_) (at_of hops.out ?_) ?_ (fun W hW => ?_) ?_ ?_; rotate_left 3; (focus (simp only [List.getElem?_toArray, List.getElem?_cons_zero, List.getElem?_cons_succ]; rfl)); (focus (rw [hops.out]; rfl)); (focus (go_simp; with_reducible rfl)); (focus (simp only [Act.put, List.setIfInBounds_toArray, List.set_cons_zero, List.set_cons_succ]; rfl)))
                obtain ⟨s0, s1, s2, s3⟩ := row4 HRWD.out
                have t1 := frozen_row _ HRWD.out 1
                (refine sch_store (o := ?_) (at_of hops.out ?_) ?_ 48 (.tmp 56) (.tmp 47) ?_ ?_ ⟨g, 1, none⟩ (.slice NA' (D.M.length + 1) nc') ?_ ?_ ?_ trivial ?_; rotate_left 1; (focus (simp only [List.getElem?_toArray, List.getElem?_cons_zero, List.getElem?_cons_succ]; rfl)); (focus (rw [hops.out]; rfl)); (focus rfl); (focus rfl); (focus rfl); (focus rfl); (focus (go_simp)))
                clear s0 s1 s2 s3 t1
                obtain ⟨s0, s1, s2, s3⟩ := row4 HRWE.out
                have t2 := frozen_row _ HRWE.out 2
                repeat (refine sch_take (o := ?_) (v := ?_) (a' := ?_) (at_of hops.out ?_) ?_ (fun W hW => ?_) ?_ ?_; rotate_left 3; (focus (simp only [List.getElem?_toArray, List.getElem?_cons_zero, List.getElem?_cons_succ]; rfl)); (focus (rw [hops.out]; rfl)); (focus (go_simp; with_reducible rfl)); (focus (simp only [Act.put, List.setIfInBounds_toArray, List.set_cons_zero, List.set_cons_succ]; rfl)))
                (refine sch_store (o := ?_) (at_of hops.out ?_) ?_ 37 (.tmp 58) (.tmp 54) ?_ ?_ ⟨g, 2, none⟩ (.slice CA' (D.M.length + 1) cc') ?_ ?_ ?_ trivial ?_; rotate_left 1; (focus (simp only [List.getElem?_toArray, List.getElem?_cons_zero, List.getElem?_cons_succ]; rfl)); (focus (rw [hops.out]; rfl)); (focus rfl); (focus rfl); (focus rfl); (focus rfl); (focus (go_simp)))
                refine sch_done ?_
                clear s0 s1 s2 s3 t2 hops
                go_wp2
                go_ret
                exact ⟨rfl, HRES.out⟩
              · (refine sch_run (o := ?_) (v := ?_) (a' := ?_) (w' := ?_) (at_of hops.out ?_) ?_ ?_ ?_ ?_ ?_; rotate_left 4; (focus (simp only [List.getElem?_toArray, List.getElem?_cons_zero, List.getElem?_cons_succ]; rfl)); (focus (rw [hops.out]; rfl)); (focus (go_simp; constructor <;> with_reducible rfl)); (focus (exact TS.of ((FB.refl _).alloc _))); (focus (simp only [Act.put, List.setIfInBounds_toArray, List.set_cons_zero, List.set_cons_succ]; rfl)))
                have HFA := Lib.hid ((HD.alloc (.cells #[.int .i64 k] 3)).alloc (.cells #[.slice A3 512 c3] 23))
                have HKA := Lib.hid (show RdV ((wF3.alloc (.cells #[.int .i64 k] 3)).alloc (.cells #[.slice A3 512 c3] 23)) (some ⟨wF3.heap.size, 0, none⟩) [.int .i64 k] from (RdV.lit wF3 [.int .i64 k] 3).alloc _)
                have HVA := Lib.hid (show RdV ((wF3.alloc (.cells #[.int .i64 k] 3)).alloc (.cells #[.slice A3 512 c3] 23)) (some ⟨wF3.heap.size + 1, 0, none⟩) [.slice A3 512 c3] from RdV.lit (wF3.alloc (.cells #[.int .i64 k] 3)) [.slice A3 512 c3] 23)
                generalize hwA : (wF3.alloc (.cells #[.int .i64 k] 3)).alloc (.cells #[.slice A3 512 c3] 23) = wA at *
                clear hwA
                (refine sch_append (o := ?_) (at_of hops.out ?_) ?_ (.tmp 44) (.tmp 46) 48 3 8 (.int .i64 0) Tryd.underlying48 info_int rfl ?_ 0 (.slice NA D.M.length nc) (D.M.map fun p => .int .i64 p.1) (HDg.out.fb HFA.out).keys ?_ _ 1 1 [.int .i64 k] rfl ?_ HKA.out (fun u hu => by simp only [List.mem_singleton] at hu; subst hu; rfl) (by have := HMLN.out; simp [maxLen]; omega) (by have := HMLN.out; simp; omega) (Nat.zero_le _) ?_; rotate_left 1; (focus (simp only [List.getElem?_toArray, List.getElem?_cons_zero, List.getElem?_cons_succ]; rfl)); (focus (rw [hops.out]; rfl)); (focus rfl); (focus rfl); (focus rfl))
                intro v' wB hoN hgN hlN
                obtain ⟨NA', nc', rfl, -⟩ := OwnV.form hoN
                simp only [List.length_append, List.length_map, List.length_cons, List.length_nil, Nat.zero_add] at hoN hlN ⊢
                have HON := Lib.hid hoN
                have HGN := Lib.hid hgN
                have HLN := Lib.hid hlN
                clear hoN hgN hlN
                refine ⟨(TS.refl _ _).trans (ts_grown HGN.out) (fun x hx => .inl (by simp [hx])), ?_⟩
                intro a' ha'
                simp only [Act.put, List.setIfInBounds_toArray, List.set_cons_zero, List.set_cons_succ] at ha'
                subst ha'
                have HFC := Lib.hid (FB.refl wB)
                obtain ⟨wC, hwC⟩ : ∃ wC : World, wC = wB := ⟨_, rfl⟩
                have HVC := Lib.hid (show RdV wC (some ⟨wF3.heap.size + 1, 0, none⟩) [.slice A3 512 c3] from by
                  rw [hwC]
                  refine RdV.move HVA.out fun a v e hc => (ts_grown HGN.out).cell hc (fun hm => ?_)
                  simp at e
                  rw [← e] at hm
                  have h1 := HDg.out.lt (wF3.heap.size + 1) (HDg.out.mem (wF3.heap.size + 1) (by simp [rctl, hm]))
                  have h2 := HD.le
                  omega)
                rw [← hwC] at HFC ⊢
                have HFC := Lib.hid (show FB wB wC from by rw [hwC]; exact FB.refl _)
                clear hwC
                have HRC := Lib.hid (show OwnV 23 wC 0 (.slice CA D.M.length cc) (V.map (·.2)) from (TS.of (F := []) HFC.out).ownV ((ts_grown HGN.out).ownV (HDg.out.fb HFA.out).rows (fun b hb hm => HDg.out.disj.1 b hm (own_out hb))) (by simp))
                have HVL := Lib.hid (show (V.map (·.2)).length = D.M.length from by rw [List.length_map, HDg.out.vals.len])
                (refine sch_append (o := ?_) (at_of hops.out ?_) ?_ (.tmp 51) (.tmp 53) 37 23 24 (.slice none 0 0) Tryd.underlying37 info_bs rfl ?_ 0 (.slice CA D.M.length cc) (V.map (·.2)) HRC.out ?_ _ 1 1 [.slice A3 512 c3] rfl ?_ HVC.out (fun u hu => by simp only [List.mem_singleton] at hu; subst hu; rfl) (by rw [HVL.out]; have := HMLN.out; simp [maxLen]; omega) (by rw [HVL.out]; have := HMLN.out; simp; omega) (Nat.zero_le _) ?_; rotate_left 1; (focus (simp only [List.getElem?_toArray, List.getElem?_cons_zero, List.getElem?_cons_succ]; rfl)); (focus (rw [hops.out]; rfl)); (focus rfl); (focus rfl); (focus rfl))
                intro v' wD hoC hgC hlC
                obtain ⟨CA', cc', rfl, -⟩ := OwnV.form hoC
                simp only [List.length_append, HVL.out, List.length_cons, List.length_nil, Nat.zero_add] at hoC hlC ⊢
                have HOC := Lib.hid hoC
                have HGC := Lib.hid hgC
                have HLC := Lib.hid hlC
                clear hoC hgC hlC
                refine ⟨(TS.refl _ _).trans (ts_grown HGC.out) (fun x hx => .inl (by simp [hx])), ?_⟩
                intro a' ha'
                simp only [Act.put, List.setIfInBounds_toArray, List.set_cons_zero, List.set_cons_succ] at ha'
                subst ha'
                refine sch_done ?_
                refine schB_leaf ?_
                have HTD := Lib.hid (show TS (optBlk NA ++ optBlk CA) w3 wD from ((((TS.of (F := optBlk NA ++ optBlk CA) HFA.out).trans (ts_grown HGN.out) (fun x hx => .inl (by simp [hx]))).then (TS.of HFC.out)).trans (ts_grown HGC.out) (fun x hx => .inl (by simp [hx]))))
                have HRWD := Lib.hid ((HTD.out.block g (Array.getElem?_eq_some_iff.1 HDg.out.row).1 (by have := HDg.out.disj; simp [this.2.1, this.2.2.1])).trans HDg.out.row)
                have HRWE := Lib.hid (heap_setCell_same wD g 1 _ _ (.slice NA' (D.M.length + 1) nc') HRWD.out)
                obtain ⟨F4, hF4, hD4, hT4⟩ := HDg.out.grow HFA.out HON.out HGN.out HLN.out HFC.out HOC.out HGC.out HLC.out hk0 hkn HNO.out HXL.out HX.out.1 HC3.out HX.out.2.1 HX.out.2.2
                have HRES := Lib.hid (show RRes w F g n { D with fuse := fz, M := cput D.M k xs } ((wD.setCell ⟨g, 1, none⟩ (.slice NA' (D.M.length + 1) nc')).setCell ⟨g, 2, none⟩ (.slice CA' (D.M.length + 1) cc')) from by
                  refine ⟨F4, fun y hy => ?_, ⟨gb, c, NA', nc', CA', cc', _, by rw [HPUT.out]; exact hD4⟩, HT1.out.then ((TS.of HF3.out).then hT4)⟩
                  rcases hF4 y hy with h | h | h
                  · exact .inl h
                  · exact .inr (Nat.le_trans HT1.out.size (HA3.out y h))
                  · exact .inr (Nat.le_trans HT1.out.size (Nat.le_trans HF3.out.le h)))
                clear hF4 hD4 hT4
                repeat (refine sch_take (o := ?_) (v := ?_) (a' := ?_) (at_of hops.out ?_) ?_ (fun W hW => ?_) ?_ ?_; rotate_left 3; (focus (simp only [List.getElem?_toArray, List.getElem?_cons_zero, List.getElem?_cons_succ]; rfl)); (focus (rw [hops.out]; rfl)); (focus (go_simp; with_reducible rfl)); (focus (simp only [Act.put, List.setIfInBounds_toArray, List.set_cons_zero, List.set_cons_succ]; rfl)))
                obtain ⟨s0, s1, s2, s3⟩ := row4 HRWD.out
                have t1 := frozen_row _ HRWD.out 1
                (refine sch_store (o := ?_) (at_of hops.out ?_) ?_ 48 (.tmp 56) (.tmp 47) ?_ ?_ ⟨g, 1, none⟩ (.slice NA' (D.M.length + 1) nc') ?_ ?_ ?_ trivial ?_; rotate_left 1; (focus (simp only [List.getElem?_toArray, List.getElem?_cons_zero, List.getElem?_cons_succ]; rfl)); (focus (rw [hops.out]; rfl)); (focus rfl); (focus rfl); (focus rfl); (focus rfl); (focus (go_simp)))
                clear s0 s1 s2 s3 t1
                obtain ⟨s0, s1, s2, s3⟩ := row4 HRWE.out
                have t2 := frozen_row _ HRWE.out 2
                repeat (refine sch_take (o := ?_) (v := ?_) (a' := ?_) (at_of hops.out ?_) ?_ (fun W hW => ?_) ?_ ?_; rotate_left 3; (focus (simp only [List.getElem?_toArray, List.getElem?_cons_zero, List.getElem?_cons_succ]; rfl)); (focus (rw [hops.out]; rfl)); (focus (go_simp; with_reducible rfl)); (focus (simp only [Act.put, List.setIfInBounds_toArray, List.set_cons_zero, List.set_cons_succ]; rfl)))
                (refine sch_store (o := ?_) (at_of hops.out ?_) ?_ 37 (.tmp 58) (.tmp 54) ?_ ?_ ⟨g, 2, none⟩ (.slice CA' (D.M.length + 1) cc') ?_ ?_ ?_ trivial ?_; rotate_left 1; (focus (simp only [List.getElem?_toArray, List.getElem?_cons_zero, List.getElem?_cons_succ]; rfl)); (focus (rw [hops.out]; rfl)); (focus rfl); (focus rfl); (focus rfl); (focus rfl); (focus (go_simp)))
                refine sch_done ?_
                clear s0 s1 s2 s3 t2 hops
                go_wp2
                go_ret
                exact ⟨rfl, HRES.out⟩
            · (refine sch_run (o := ?_) (v := ?_) (a' := ?_) (w' := ?_) (at_of hops.out ?_) ?_ ?_ ?_ ?_ ?_; rotate_left 4; (focus (simp only [List.getElem?_toArray, List.getElem?_cons_zero, List.getElem?_cons_succ]; rfl)); (focus (rw [hops.out]; rfl)); (focus (go_simp; constructor <;> with_reducible rfl)); (focus (exact TS.of ((FB.refl _).alloc _))); (focus (simp only [Act.put, List.setIfInBounds_toArray, List.set_cons_zero, List.set_cons_succ]; rfl)))
              (refine sch_run (o := ?_) (v := ?_) (a' := ?_) (w' := ?_) (at_of hops.out ?_) ?_ ?_ ?_ ?_ ?_; rotate_left 4; (focus (simp only [List.getElem?_toArray, List.getElem?_cons_zero, List.getElem?_cons_succ]; rfl)); (focus (rw [hops.out]; rfl)); (focus (go_simp; constructor <;> with_reducible rfl)); (focus (exact TS.of ((FB.refl _).alloc _))); (focus (simp only [Act.put, List.setIfInBounds_toArray, List.set_cons_zero, List.set_cons_succ]; rfl)))
              have HFA := Lib.hid ((HD.alloc (.cells #[.slice A3 512 c3] 23)).alloc (.cells #[.int .i64 k] 3))
              have HVA := Lib.hid (show RdV ((wF3.alloc (.cells #[.slice A3 512 c3] 23)).alloc (.cells #[.int .i64 k] 3)) (some ⟨wF3.heap.size, 0, none⟩) [.slice A3 512 c3] from (RdV.lit wF3 [.slice A3 512 c3] 23).alloc _)
              have HKA := Lib.hid (show RdV ((wF3.alloc (.cells #[.slice A3 512 c3] 23)).alloc (.cells #[.int .i64 k] 3)) (some ⟨wF3.heap.size + 1, 0, none⟩) [.int .i64 k] from RdV.lit (wF3.alloc (.cells #[.slice A3 512 c3] 23)) [.int .i64 k] 3)
              generalize hwA : (wF3.alloc (.cells #[.slice A3 512 c3] 23)).alloc (.cells #[.int .i64 k] 3) = wA at *
              clear hwA
              (refine sch_append (o := ?_) (at_of hops.out ?_) ?_ (.tmp 44) (.tmp 46) 48 3 8 (.int .i64 0) Tryd.underlying48 info_int rfl ?_ 0 (.slice NA D.M.length nc) (D.M.map fun p => .int .i64 p.1) (HDg.out.fb HFA.out).keys ?_ _ 1 1 [.int .i64 k] rfl ?_ HKA.out (fun u hu => by simp only [List.mem_singleton] at hu; subst hu; rfl) (by have := HMLN.out; simp [maxLen]; omega) (by have := HMLN.out; simp; omega) (Nat.zero_le _) ?_; rotate_left 1; (focus (simp only [List.getElem?_toArray, List.getElem?_cons_zero, List.getElem?_cons_succ]; rfl)); (focus (rw [hops.out]; rfl)); (focus rfl); (focus rfl); (focus rfl))
              intro v' wB hoN hgN hlN
              obtain ⟨NA', nc', rfl, -⟩ := OwnV.form hoN
              simp only [List.length_append, List.length_map, List.length_cons, List.length_nil, Nat.zero_add] at hoN hlN ⊢
              have HON := Lib.hid hoN
              have HGN := Lib.hid hgN
              have HLN := Lib.hid hlN
              clear hoN hgN hlN
              refine ⟨(TS.refl _ _).trans (ts_grown HGN.out) (fun x hx => .inl (by simp [hx])), ?_⟩
              intro a' ha'
              simp only [Act.put, List.setIfInBounds_toArray, List.set_cons_zero, List.set_cons_succ] at ha'
              subst ha'
              have HFC := Lib.hid (FB.refl wB)
              obtain ⟨wC, hwC⟩ : ∃ wC : World, wC = wB := ⟨_, rfl⟩
              have HVC := Lib.hid (show RdV wC (some ⟨wF3.heap.size, 0, none⟩) [.slice A3 512 c3] from by
                rw [hwC]
                refine RdV.move HVA.out fun a v e hc => (ts_grown HGN.out).cell hc (fun hm => ?_)
                simp at e
                rw [← e] at hm
                have h1 := HDg.out.lt wF3.heap.size (HDg.out.mem wF3.heap.size (by simp [rctl, hm]))
                have h2 := HD.le
                omega)
              rw [← hwC] at HFC ⊢
              have HFC := Lib.hid (show FB wB wC from by rw [hwC]; exact FB.refl _)
              clear hwC
              have HRC := Lib.hid (show OwnV 23 wC 0 (.slice CA D.M.length cc) (V.map (·.2)) from (TS.of (F := []) HFC.out).ownV ((ts_grown HGN.out).ownV (HDg.out.fb HFA.out).rows (fun b hb hm => HDg.out.disj.1 b hm (own_out hb))) (by simp))
              have HVL := Lib.hid (show (V.map (·.2)).length = D.M.length from by rw [List.length_map, HDg.out.vals.len])
              (refine sch_append (o := ?_) (at_of hops.out ?_) ?_ (.tmp 51) (.tmp 53) 37 23 24 (.slice none 0 0) Tryd.underlying37 info_bs rfl ?_ 0 (.slice CA D.M.length cc) (V.map (·.2)) HRC.out ?_ _ 1 1 [.slice A3 512 c3] rfl ?_ HVC.out (fun u hu => by simp only [List.mem_singleton] at hu; subst hu; rfl) (by rw [HVL.out]; have := HMLN.out; simp [maxLen]; omega) (by rw [HVL.out]; have := HMLN.out; simp; omega) (Nat.zero_le _) ?_; rotate_left 1; (focus (simp only [List.getElem?_toArray, List.getElem?_cons_zero, List.getElem?_cons_succ]; rfl)); (focus (rw [hops.out]; rfl)); (focus rfl); (focus rfl); (focus rfl))
              intro v' wD hoC hgC hlC
              obtain ⟨CA', cc', rfl, -⟩ := OwnV.form hoC
              simp only [List.length_append, HVL.out, List.length_cons, List.length_nil, Nat.zero_add] at hoC hlC ⊢
              have HOC := Lib.hid hoC
              have HGC := Lib.hid hgC
              have HLC := Lib.hid hlC
              clear hoC hgC hlC
              refine ⟨(TS.refl _ _).trans (ts_grown HGC.out) (fun x hx => .inl (by simp [hx])), ?_⟩
              intro a' ha'
              simp only [Act.put, List.setIfInBounds_toArray, List.set_cons_zero, List.set_cons_succ] at ha'
              subst ha'
              refine sch_done ?_
              refine schB_leaf ?_
              have HTD := Lib.hid (show TS (optBlk NA ++ optBlk CA) w3 wD from ((((TS.of (F := optBlk NA ++ optBlk CA) HFA.out).trans (ts_grown HGN.out) (fun x hx => .inl (by simp [hx]))).then (TS.of HFC.out)).trans (ts_grown HGC.out) (fun x hx => .inl (by simp [hx]))))
              have HRWD := Lib.hid ((HTD.out.block g (Array.getElem?_eq_some_iff.1 HDg.out.row).1 (by have := HDg.out.disj; simp [this.2.1, this.2.2.1])).trans HDg.out.row)
              have HRWE := Lib.hid (heap_setCell_same wD g 1 _ _ (.slice NA' (D.M.length + 1) nc') HRWD.out)
              obtain ⟨F4, hF4, hD4, hT4⟩ := HDg.out.grow HFA.out HON.out HGN.out HLN.out HFC.out HOC.out HGC.out HLC.out hk0 hkn HNO.out HXL.out HX.out.1 HC3.out HX.out.2.1 HX.out.2.2
              have HRES := Lib.hid (show RRes w F g n { D with fuse := fz, M := cput D.M k xs } ((wD.setCell ⟨g, 1, none⟩ (.slice NA' (D.M.length + 1) nc')).setCell ⟨g, 2, none⟩ (.slice CA' (D.M.length + 1) cc')) from by
                refine ⟨F4, fun y hy => ?_, ⟨gb, c, NA', nc', CA', cc', _, by rw [HPUT.out]; exact hD4⟩, HT1.out.then ((TS.of HF3.out).then hT4)⟩
                rcases hF4 y hy with h | h | h
                · exact .inl h
                · exact .inr (Nat.le_trans HT1.out.size (HA3.out y h))
                · exact .inr (Nat.le_trans HT1.out.size (Nat.le_trans HF3.out.le h)))
              clear hF4 hD4 hT4
              repeat (refine sch_take (o := ?_) (v := ?_) (a' := ?_) (at_of hops.out ?_) ?_ (fun W hW => ?_) ?_ ?_; rotate_left 3; (focus (simp only [List.getElem?_toArray, List.getElem?_cons_zero, List.getElem?_cons_succ]; rfl)); (focus (rw [hops.out]; rfl)); (focus (go_simp; with_reducible rfl)); (focus (simp only [Act.put, List.setIfInBounds_toArray, List.set_cons_zero, List.set_cons_succ]; rfl)))
              obtain ⟨s0, s1, s2, s3⟩ := row4 HRWD.out
              have t1 := frozen_row _ HRWD.out 1
              (refine sch_store (o := ?_) (at_of hops.out ?_) ?_ 48 (.tmp 56) (.tmp 47) ?_ ?_ ⟨g, 1, none⟩ (.slice NA' (D.M.length + 1) nc') ?_ ?_ ?_ trivial ?_; rotate_left 1; (focus (simp only [List.getElem?_toArray, List.getElem?_cons_zero, List.getElem?_cons_succ]; rfl)); (focus (rw [hops.out]; rfl)); (focus rfl); (focus rfl); (focus rfl); (focus rfl); (focus (go_simp)))
              clear s0 s1 s2 s3 t1
              obtain ⟨s0, s1, s2, s3⟩ := row4 HRWE.out
              have t2 := frozen_row _ HRWE.out 2
              repeat (refine sch_take (o := ?_) (v := ?_) (a' := ?_) (at_of hops.out ?_) ?_ (fun W hW => ?_) ?_ ?_; rotate_left 3; (focus (simp only [List.getElem?_toArray, List.getElem?_cons_zero, List.getElem?_cons_succ]; rfl)); (focus (rw [hops.out]; rfl)); (focus (go_simp; with_reducible rfl)); (focus (simp only [Act.put, List.setIfInBounds_toArray, List.set_cons_zero, List.set_cons_succ]; rfl)))
              (refine sch_store (o := ?_) (at_of hops.out ?_) ?_ 37 (.tmp 58) (.tmp 54) ?_ ?_ ⟨g, 2, none⟩ (.slice CA' (D.M.length + 1) cc') ?_ ?_ ?_ trivial ?_; rotate_left 1; (focus (simp only [List.getElem?_toArray, List.getElem?_cons_zero, List.getElem?_cons_succ]; rfl)); (focus (rw [hops.out]; rfl)); (focus rfl); (focus rfl); (focus rfl); (focus rfl); (focus (go_simp)))
              refine sch_done ?_
              clear s0 s1 s2 s3 t2 hops
              go_wp2
              go_ret
              exact ⟨rfl, HRES.out⟩
          · rw [show cfiZ D.M k = (i : Int) from by unfold cfiZ; rw [h1]]
            obtain ⟨cb, A4, c4, rfl, r1, rf, -, -, -, -, -⟩ := hD.at h3
            obtain ⟨F4, hF4, hD4, hT4⟩ := hD.replaced h3 HXL.out HX.out.1 HC3.out HX.out.2.1 HX.out.2.2 rfl
            have hml : (D.M.length : Int) ≤ 32768 := by have := HMLN.out; simp only at this; omega
            have hil : (i : Int) < (D.M.length : Int) := by omega
            have HXX := Lib.hid (show x.length = 512 from (hD.ok.M _ (List.mem_of_getElem? h3)).2.2)
            have hi0 : ¬ (i : Int) < 0 := by omega
            have hi1 : (0 : Int) ≤ (i : Int) := by omega
            rw [HXX.out] at r1
            have HPUT := Lib.hid (h5 xs)
            have HRES := Lib.hid (show RRes w F g n { D with fuse := fz, M := cput D.M k xs } (w3.setCell ⟨cb, i, none⟩ (.slice A3 512 c3)) from by
              refine ⟨F4, fun y hy => ?_, ⟨gb, c, NA, nc, some ⟨cb, 0, none⟩, cc, V.set i (k, .slice A3 512 c3), by rw [HPUT.out]; exact hD4⟩, HT1.out.then ((TS.of HF3.out).then hT4)⟩
              rcases hF4 y hy with h | h
              · exact .inl h
              · exact .inr (Nat.le_trans HT1.out.size (HA3.out y h)))
            clear h1 h2 h3 h4 h5 hD hF4 hD4 hT4 HC
            go_wp2
            go_ret
            exact ⟨rfl, HRES.out⟩
      · rw [if_pos (.inr (.inr hlen))]
        have hne : ((xs.length : Int) != 512) = true := by simp; omega
        clear h hr hlen
        go_enter Tryd.func57, Tryd.ntmps57
        go_wp2_with fail
        refine (ref_Sectors H.out).mono ?_
        rintro e w1 ⟨rfl, rfl⟩
        go_wp2
        go_ret
        exact ⟨rfl, F, fun x hx => .inl hx, H.out, TS.refl _ _⟩
end
end Go.Proofs.YtihljjfnjclefaaDoor
/- the reference of layer 5 over the reference's disk: Pages, Load, Save. -/
set_option linter.unusedVariables false
set_option linter.unusedSimpArgs false
namespace Go.Proofs.YtihljjfnjclefaaDoor
open Go.ChangeShapes Go.WideShapes Go.ChangeAt Go.RowKit Go.MapKept
set_option maxRecDepth 100000

set_option maxHeartbeats 400000 in
theorem r5_Pages {w : World} {F : List Nat} {g n : Nat} {D : DiskSt} (h : RDsk w F g n D) :
    Calls Tryd.prog 32 #[.pointer (some ⟨g, 0, none⟩)] w fun e w' => e = .returned (.int .i64 ((n / 8 : Nat) : Int)) ∧ w = w' := by
  have H := Lib.hid h
  have hd := div8 n
  have hn := h.ok.n2
  have hwr : IntKind.i64.wrap (((n / 8 : Nat) : Int)) = ((n / 8 : Nat) : Int) := by rw [IntKind.wrap_i64]; omega
  clear h
  generalize hm : n / 8 = m at *
  clear hm
  go_enter Tryd.func32, Tryd.ntmps32
  go_wp2_with fail
  refine (ref_Sectors H.out).mono ?_
  rintro e w1 ⟨rfl, rfl⟩
  go_wp2
  go_ret
  first | exact ⟨rfl, rfl⟩ | exact ⟨by simp [hd], rfl⟩
set_option maxHeartbeats 2000000 in
theorem r5_Load {w : World} {F : List Nat} {g n : Nat} {D : DiskSt} (h : RDsk w F g n D) (k : Int) :
    Calls Tryd.prog 31 #[.pointer (some ⟨g, 0, none⟩), .int .i64 k] w fun e w' => ∃ A c, e = .returned (.tuple #[.slice A (sdLoad D n k).1.length c, .int .i64 (sdLoad D n k).2.1]) ∧ Rd w' A (sdLoad D n k).1 ∧ (∀ ad, A = some ad → w.heap.size ≤ ad.block) ∧ RDsk w' F g n (sdLoad D n k).2.2 ∧ TS F w w' := by
  have H := Lib.hid h
  have HP := Lib.hid (r5_Pages h)
  have HF := Lib.hid h.lt
  have HN := Lib.hid h.ok.n2
  obtain ⟨R, hR⟩ : ∃ R, R = sdLoad D n k := ⟨_, rfl⟩
  rw [← hR]
  unfold sdLoad at hR
  clear h
  obtain ⟨m, hm⟩ : ∃ m : Nat, m = n / 8 := ⟨_, rfl⟩
  have HM := Lib.hid hm
  rw [← hm] at HP
  by_cases ho : pgOut n k
  · rw [if_pos ho] at hR
    subst hR
    unfold pgOut at ho
    rw [← hm] at ho
    clear hm
    by_cases hneg : k < 0
    · clear ho
      go_enter Tryd.func31, Tryd.ntmps31
      go_wp2
      go_ret2
      exact ⟨none, 0, rfl, Rd.nil _ _, fun ad ha => (by cases ha), H.out, TS.refl _ _⟩
    · have hbig : (m : Int) ≤ k := by omega
      clear ho
      go_enter Tryd.func31, Tryd.ntmps31
      go_wp2_with fail
      refine HP.out.mono ?_
      rintro e w1 ⟨rfl, rfl⟩
      go_wp2
      go_ret2
      exact ⟨none, 0, rfl, Rd.nil _ _, fun ad ha => (by cases ha), H.out, TS.refl _ _⟩
  · rw [if_neg ho] at hR
    unfold pgOut at ho
    rw [← hm] at ho
    have HK := Lib.hid (show 0 ≤ k ∧ k < (m : Int) ∧ (m : Int) * 8 ≤ n from by omega)
    have hneg : ¬ k < 0 := by omega
    have hbig : ¬ (m : Int) ≤ k := by omega
    have HRR := Lib.hid hR
    clear ho hR hm
    go_enter Tryd.func31, Tryd.ntmps31
    go_wp2_with fail
    refine HP.out.mono ?_
    rintro e w1 ⟨rfl, rfl⟩
    go_wp2_with fail
    clear hneg hbig
    go_loopw [6, 7] (fun v i wr => ∃ (j : Nat) (out : List Byte) (D' : DiskSt), j ≤ 8 ∧ i = .int .i64 j ∧ Hid (out.length ≤ 512 * j) ∧ Hid (Own wr w.heap.size v out) ∧ Hid (RDsk wr F g n D') ∧ Hid (TS F w wr) ∧ Hid (R = ldF n k (8 - j) j out D')) (fun _ i _ => 8 - (intOf i).toNat)
    case atStart => exact ⟨0, [], D, by omega, rfl, Lib.hid (by simp), Lib.hid (Own.nil _ _), H, Lib.hid (TS.refl _ _), HRR⟩
    case round =>
      obtain ⟨j, out, D', hj, rfl, HOL, HO, HD, HT, HRJ⟩ := hrel
      by_cases hlt : j < 8
      · have hz : (j : Int) < 8 := by omega
        have hw1 : IntKind.i64.wrap (8 * k) = k * 8 := by rw [IntKind.wrap_i64]; have := HK.out; have := HN.out; omega
        have hw2 : IntKind.i64.wrap (k * 8 + (j : Int)) = k * 8 + (j : Int) := by rw [IntKind.wrap_i64]; have := HK.out; have := HN.out; omega
        have hw3 : IntKind.i64.wrap ((j : Int) + 1) = (j : Int) + 1 := by rw [IntKind.wrap_i64]; omega
        have HJ := Lib.hid hlt
        have hrj := HRJ.out
        rw [show 8 - j = (7 - j) + 1 from by omega, ldF] at hrj
        have HRJ2 := Lib.hid hrj
        have HRL := Lib.hid (sdRead_le HD.out.ok (k * 8 + (j : Int)))
        have HC := Lib.hid (ref_Read HD.out (k * 8 + (j : Int)))
        generalize sdRead D' n (k * 8 + (j : Int)) = t at *
        obtain ⟨b, er, D2⟩ := t
        have HRL := Lib.hid (show b.length ≤ 512 from HRL.out)
        clear hlt hj hrj HRJ
        go_wp2_with fail
        refine HC.out.mono ?_
        rintro e w2 ⟨A9, c9, rfl, hr, hnew, hd, ht⟩
        have HR9 := Lib.hid (show Rd w2 A9 b from hr)
        have HD2 := Lib.hid hd
        have HT2 := Lib.hid (HT.out.then ht)
        have HOF := Lib.hid (OwnV.base HO.out)
        have HO2 := Lib.hid (ht.ownV HO.out (fun kk hk hm => by have h1 := (HOF.out kk hk).1; have := HF.out kk hm; omega))
        clear hr hnew hd ht HC HO HD HT
        by_cases he : er = 0
        · subst he
          have hrj := HRJ2.out
          rw [if_pos rfl] at hrj
          have HRJ3 := Lib.hid hrj
          clear hrj HRJ2
          go_wp2_with (at_builtin; refine wpList_append_bytes rfl _ _ rfl w.heap.size _ out HO2.out rfl A9 c9 b rfl HR9.out (by have := HRL.out; have := HOL.out; have := HJ.out; omega) HT2.out.size ?_; intro v' w3 ho hg hob; have HO3 := Lib.hid ho; have HG := Lib.hid hg; clear ho hg hob)
          have HD3 := Lib.hid (HD2.out.ts (TS.grown HG.out) (fun x hx hm => by have h1 := (HOF.out x (by simpa using hx)).1; have := HF.out x hm; omega))
          have HT3 := Lib.hid (HT2.out.trans (TS.grown HG.out) (fun x hx => .inr (HOF.out x (by simpa using hx)).1))
          go_roundw
          case rel => exact ⟨j + 1, out ++ b, D2, by have := HJ.out; omega, by go_num, Lib.hid (by rw [List.length_append]; have := HRL.out; have := HOL.out; omega), HO3, HD3, HT3, Lib.hid (by rw [show 8 - (j + 1) = 7 - j by omega]; exact HRJ3.out)⟩
          case measure => (show 8 - ((j : Int) + 1).toNat < 8 - ((j : Int)).toNat; have := HJ.out; omega)
        · have heb : (er != 0) = true := by simpa using he
          have hrj := HRJ2.out
          rw [if_neg he] at hrj
          have HRJ3 := Lib.hid hrj
          clear hrj HRJ2 he
          go_wp2
          go_ret2
          rw [HRJ3.out]
          exact ⟨none, 0, rfl, Rd.nil _ _, fun ad ha => (by cases ha), HD2.out, HT2.out⟩
      · obtain rfl : j = 8 := by omega
        have hq := HRJ.out
        rw [ldF] at hq
        have HQ := Lib.hid hq
        obtain ⟨A7, c7, rfl, h1, h2, h3, h4⟩ := Own.form HO.out
        have HE := Lib.hid (And.intro h3 h4)
        clear hq HRJ HO h1 h2 h3 h4
        go_wp2
        go_ret2
        rw [HQ.out]
        exact ⟨A7, c7, rfl, HE.out.1, fun ad ha => (HE.out.2 ad ha).1, HD.out, HT.out⟩
set_option maxHeartbeats 4000000 in
theorem r5_Save {w : World} {F : List Nat} {g n : Nat} {D : DiskSt} (h : RDsk w F g n D) (k : Int) (A : Option Addr) (ca : Nat) (xs : List Byte) (hl : xs.length ≤ 100000000000) (hca : xs.length ≤ ca) (hr : Rd w A xs) (hAF : ∀ ad, A = some ad → ad.block ∉ F) :
    Calls Tryd.prog 30 #[.pointer (some ⟨g, 0, none⟩), .int .i64 k, .slice A xs.length ca] w fun e w' => e = .returned (.int .i64 (sdSave D n k xs).1) ∧ RRes w F g n (sdSave D n k xs).2 w' := by
  have HP := Lib.hid (r5_Pages h)
  have HF := Lib.hid h.lt
  have HN := Lib.hid h.ok.n2
  have H0 := Lib.hid h
  have HX := Lib.hid hr
  have HAF := Lib.hid hAF
  obtain ⟨R, hR⟩ : ∃ R, R = sdSave D n k xs := ⟨_, rfl⟩
  rw [← hR]
  unfold sdSave at hR
  clear h hr hAF
  obtain ⟨m, hm⟩ : ∃ m : Nat, m = n / 8 := ⟨_, rfl⟩
  have HM := Lib.hid hm
  rw [← hm] at HP
  by_cases hneg : k < 0
  · rw [if_pos (.inl (.inl hneg))] at hR
    subst hR
    clear hl hca hm
    go_enter Tryd.func30, Tryd.ntmps30
    go_wp2
    go_ret
    exact ⟨rfl, F, fun x hx => .inl hx, H0.out, TS.refl _ _⟩
  · by_cases hbig : (m : Int) ≤ k
    · rw [if_pos (.inl (.inr (by rw [← hm]; exact hbig)))] at hR
      subst hR
      clear hl hca hm
      go_enter Tryd.func30, Tryd.ntmps30
      go_wp2_with fail
      refine HP.out.mono ?_
      rintro e w1 ⟨rfl, rfl⟩
      go_wp2
      go_ret
      exact ⟨rfl, F, fun x hx => .inl hx, H0.out, TS.refl _ _⟩
    · by_cases hx : xs.length = 4096
      · rw [if_neg (by unfold pgOut; rw [← hm]; omega)] at hR
        have HRR := Lib.hid hR
        have HXL := Lib.hid hx
        have HCA := Lib.hid hca
        have HK := Lib.hid (show 0 ≤ k ∧ k < (m : Int) ∧ (m : Int) * 8 ≤ n from by omega)
        rw [hx]
        clear hR hx hca hl hm
        go_enter Tryd.func30, Tryd.ntmps30
        go_wp2_with fail
        refine HP.out.mono ?_
        rintro e w1 ⟨rfl, rfl⟩
        go_wp2_with fail
        clear hneg hbig
        go_loopw [7] (fun i wr => ∃ (j : Nat) (D' : DiskSt) (F' : List Nat), j ≤ 8 ∧ i = .int .i64 j ∧ Hid (RDsk wr F' g n D') ∧ Hid (∀ x ∈ F', x ∈ F ∨ w.heap.size ≤ x) ∧ Hid (TS F w wr) ∧ Hid (R = svF n k xs (8 - j) j D')) (fun i _ => 8 - (intOf i).toNat)
        case atStart => exact ⟨0, D, F, by omega, rfl, H0, Lib.hid (fun x hx => .inl hx), Lib.hid (TS.refl _ _), HRR⟩
        case round =>
          obtain ⟨j, D', F', hj, rfl, HD, HFF, HT, HRJ⟩ := hrel
          by_cases hlt : j < 8
          · have hz : (j : Int) < 8 := by omega
            have HJ := Lib.hid hlt
            have hw1 : IntKind.i64.wrap (8 * k) = k * 8 := by rw [IntKind.wrap_i64]; have := HK.out; have := HN.out; omega
            have hw2 : IntKind.i64.wrap (k * 8 + (j : Int)) = k * 8 + (j : Int) := by rw [IntKind.wrap_i64]; have := HK.out; have := HN.out; omega
            have hw3 : IntKind.i64.wrap ((j : Int) + 1) = (j : Int) + 1 := by rw [IntKind.wrap_i64]; omega
            obtain ⟨kk, hkk⟩ : ∃ kk, kk = 512 * j := ⟨_, rfl⟩
            have hw4 : IntKind.i64.wrap (512 * (j : Int)) = (kk : Int) := by rw [IntKind.wrap_i64]; omega
            have hw5 : IntKind.i64.wrap ((kk : Int) + 512) = (kk : Int) + 512 := by rw [IntKind.wrap_i64]; omega
            obtain ⟨A34, hcut, hcr, hcb⟩ := cut_at A ca xs kk 512 (by rw [HXL.out]; omega) HCA.out
            rw [HXL.out] at hcut
            have hcut : ∀ W, (Instr.slice 23 (.slice A 4096 ca) (some (.int .i64 (kk : Int))) (some (.int .i64 ((kk : Int) + 512))) none).run Tryd.prog W = .ok (.slice A34 512 (ca - kk)) W := hcut
            have hsl : (sec xs j).length = 512 := sec_len (n := 8) HXL.out hlt
            have hrs : Rd wr A34 (sec xs j) := by
              have := hcr wr (HT.out.rd HX.out HAF.out)
              rw [hkk] at this
              exact this
            have hA34 : ∀ ad, A34 = some ad → ad.block < w.heap.size ∧ ad.block ∉ F := fun ad ha => by
              have hq := hcb (by have := HCA.out; have := HXL.out; omega)
              rw [hq] at ha
              cases A with
              | none => cases ha
              | some a0 =>
                have hb0 : ad.block = a0.block := by
                  simp only [Option.map_some, Option.some.injEq] at ha
                  rw [← ha]; unfold Addr.add; split <;> rfl
                rw [hb0]
                refine ⟨?_, HAF.out a0 rfl⟩
                obtain ⟨b, o, e2, h2, -⟩ := Rd.form HX.out (by have := HXL.out; omega)
                cases e2; exact h2
            have HC := Lib.hid (ref_Write HD.out (k * 8 + (j : Int)) A34 512 (ca - kk) (sec xs j) hsl.symm (by rw [hsl]; omega) hrs (fun ad ha hm => by
              rcases HFF.out _ hm with hm | hm
              · exact (hA34 ad ha).2 hm
              · have := (hA34 ad ha).1; omega))
            have hrj := HRJ.out
            rw [show 8 - j = (7 - j) + 1 from by omega, svF] at hrj
            have HRJ2 := Lib.hid hrj
            generalize sdWrite D' n (k * 8 + (j : Int)) (sec xs j) = t at *
            obtain ⟨er, D2⟩ := t
            clear hrj HRJ hcr hcb hsl hrs hA34 hkk hlt hj
            go_wp2_with fail
            refine HC.out.mono ?_
            rintro e w2 ⟨rfl, F2, hf2, hd2, ht2⟩
            have HD2 := Lib.hid hd2
            have HF2 := Lib.hid (show ∀ x ∈ F2, x ∈ F ∨ w.heap.size ≤ x from fun x hx => by
              rcases hf2 x hx with h | h
              · exact HFF.out x h
              · right; exact Nat.le_trans HT.out.size h)
            have HT2 := Lib.hid (HT.out.trans ht2 HFF.out)
            clear hf2 hd2 ht2 HC hcut hw4 hw5 HD HT
            by_cases he : er = 0
            · subst he
              have hrj := HRJ2.out
              rw [if_pos rfl] at hrj
              have HRJ3 := Lib.hid hrj
              clear hrj HRJ2
              go_wp2
              go_roundw
              case rel => exact ⟨j + 1, D2, F2, by have := HJ.out; omega, by go_num, HD2, HF2, HT2, Lib.hid (by rw [show 8 - (j + 1) = 7 - j by omega]; exact HRJ3.out)⟩
              case measure => (show 8 - ((j : Int) + 1).toNat < 8 - ((j : Int)).toNat; have := HJ.out; omega)
            · have heb : (er != 0) = true := by simpa using he
              have hrj := HRJ2.out
              rw [if_neg he] at hrj
              have HRJ3 := Lib.hid hrj
              clear hrj HRJ2 he
              go_wp2
              go_ret
              rw [HRJ3.out]
              exact ⟨rfl, F2, HF2.out, HD2.out, HT2.out⟩
          · obtain rfl : j = 8 := by omega
            have hq := HRJ.out
            rw [svF] at hq
            have HRJ3 := Lib.hid hq
            clear hq HRJ
            go_wp2
            go_ret
            rw [HRJ3.out]
            exact ⟨rfl, F', HFF.out, HD.out, HT.out⟩
      · rw [if_pos (.inr hx)] at hR
        subst hR
        have hxe : ((xs.length : Int) != 4096) = true := by rw [bne_iff_ne]; omega
        clear hx hl hca hm
        go_enter Tryd.func30, Tryd.ntmps30
        go_wp2_with fail
        refine HP.out.mono ?_
        rintro e w1 ⟨rfl, rfl⟩
        go_wp2
        go_ret
        exact ⟨rfl, F, fun x hx => .inl hx, H0.out, TS.refl _ _⟩
end Go.Proofs.YtihljjfnjclefaaDoor
/- The reference's disk: the walks through Flush, Crash. -/
set_option linter.unusedVariables false
set_option linter.unusedSimpArgs false
namespace Go.Proofs.YtihljjfnjclefaaDoor
open Go.ChangeShapes Go.WideShapes Go.ChangeAt Go.RowKit Go.MapKept
set_option maxRecDepth 100000

/-- x[k:], with the address. -/
theorem cut_from (gb c : Nat) (m k : Nat) (hk : k < m) (hc : m ≤ c) (W : World) :
    (Instr.slice 23 (.slice (some ⟨gb, 0, none⟩) m c) (some (.int .i64 (k : Int))) none none).run Tryd.prog W = .ok (.slice (some ⟨gb, k, none⟩) (m - k) (c - k)) W := by
  obtain ⟨i, hi, _, hsz, _⟩ := info_parts info_u8
  have hel : Tryd.prog.elem 23 = 5 := by simp [Program.elem, Tryd.underlying23]
  have hu : Tryd.prog.underlying 23 = some (.slice (Tryd.prog.elem 23)) := by rw [hel]; exact Tryd.underlying23
  have hck : c ≠ k := by omega
  rw [run_slice_l W 23 (some ⟨gb, 0, none⟩) m c hu .i64 (k : Int) (Int.natCast_nonneg _) (by omega), hel]
  simp [sizeOf, typeInfo, hi, hsz, sliced, Result.andThen, hck, Addr.add]
  intro e; exact e.symm
section
variable {w w' : World} {F F' : List Nat} {g n gb c : Nat} {NA : Option Addr} {nc : Nat} {CA : Option Addr} {cc : Nat} {V : List (Int × Value)} {D : DiskSt}
/-- The disk's bytes written. -/
theorem RD.copied (h : RD w F g n gb c NA nc CA cc V D) (b : List Byte) (hb : b.length = 512 * n) (ho : Own w' 0 (.slice (some ⟨gb, 0, none⟩) (512 * n) c) b) (htb : TB gb w w') : RD w' F g n gb c NA nc CA cc V { D with b := b } ∧ TS F w w' := by
  obtain ⟨d1, d2, d3, d4, d5, d6⟩ := h.disj
  have hts : TS [gb] w w' := TS.tb htb (by simp)
  refine ⟨⟨?_, ho, ?_, ?_, ?_, h.nodup, h.mem, fun x hx => Nat.lt_of_lt_of_le (h.lt x hx) hts.size, ⟨hb, h.ok.n1, h.ok.n2, h.ok.M, h.ok.f⟩, h.nd⟩, TS.tb htb (h.mem gb (by simp [rctl]))⟩
  · rw [hts.block g (Array.getElem?_eq_some_iff.1 h.row).1 (by simpa using d6)]; exact h.row
  · exact hts.ownV h.keys (fun b hb => by simp only [List.mem_singleton]; rintro rfl; exact d4 (own_out hb))
  · exact hts.ownV h.rows (fun b hb => by simp only [List.mem_singleton]; rintro rfl; exact d5 (own_out hb))
  · exact h.vals.move (fun A x hr hb => hts.rd hr (fun ad ha hf => (hb ad ha).2 (by simp only [List.mem_singleton] at hf; simp [rctl, hf]))) (fun b h h' => ⟨h, h'⟩)
/-- The cache made empty. -/
theorem RD.emptied (h : RD w F g n gb c NA nc CA cc V D) :
    RD ((w.setCell ⟨g, 1, none⟩ (.slice none 0 0)).setCell ⟨g, 2, none⟩ (.slice none 0 0)) F g n gb c none 0 none 0 [] { D with M := [] } ∧ TS F w ((w.setCell ⟨g, 1, none⟩ (.slice none 0 0)).setCell ⟨g, 2, none⟩ (.slice none 0 0)) := by
  obtain ⟨d1, d2, d3, d4, d5, d6⟩ := h.disj
  have hs1 : TS [g] w (w.setCell ⟨g, 1, none⟩ (.slice none 0 0)) := TS.tb (TB.set w 1 _) (by simp)
  have hs2 : TS [g] (w.setCell ⟨g, 1, none⟩ (.slice none 0 0)) ((w.setCell ⟨g, 1, none⟩ (.slice none 0 0)).setCell ⟨g, 2, none⟩ (.slice none 0 0)) := TS.tb (TB.set _ 2 _) (by simp)
  have hs := hs1.then hs2
  have hrow1 := heap_setCell_same w g 1 _ _ (.slice none 0 0) h.row
  have hrow2 := heap_setCell_same _ g 2 _ _ (.slice none 0 0) hrow1
  refine ⟨⟨?_, ?_, OwnV.nil _ _ _, OwnV.nil _ _ _, .nil, ?_, fun x hx => ?_, fun x hx => Nat.lt_of_lt_of_le (h.lt x hx) hs.size, ⟨h.ok.len, h.ok.n1, h.ok.n2, by simp, h.ok.f⟩, by simp⟩, ?_⟩
  · rw [hrow2]; rfl
  · exact hs.ownV h.bytes (fun b hb => by cases hb; simp only [List.mem_singleton]; exact fun e => d6 e.symm)
  · simp [rctl, optBlk, d6]
  · simp only [rctl, optBlk, Option.toList_none, List.map_nil, List.append_nil] at hx
    exact h.mem x (by simp only [rctl, List.mem_append]; exact .inl hx)
  · exact (TS.refl F w).trans hs (fun x hx => .inl (by simp only [List.mem_singleton] at hx; rw [hx]; exact h.mem g (by simp [rctl])))
end
section
variable {w : World} {F : List Nat} {g n : Nat} {D : DiskSt}
end
end Go.Proofs.YtihljjfnjclefaaDoor
/- The reference's disk: the walk through Crash. -/
set_option linter.unusedVariables false
set_option linter.unusedSimpArgs false
namespace Go.Proofs.YtihljjfnjclefaaDoor
open Go.ChangeShapes Go.WideShapes Go.ChangeAt Go.RowKit Go.MapKept
set_option maxRecDepth 100000

theorem box3' {w : World} {a b c : Value} {t : TypeId} {W : World} (h : FB (w.alloc (.cells #[a, b, c] t)) W) : W.heap[w.heap.size]? = some (.cells #[a, b, c] t (0, 0)) := by
  rw [h.block _ (by simp)]; exact heap_alloc_new _ _
/-- Is a cached sector kept? is it torn? -/
def keptB (keep : List Bool) (j : Nat) : Bool := keep.getD j false
def tornB (torn bytes : Int) (j : Nat) : Bool := decide ((j : Int) = torn ∧ 0 ≤ bytes ∧ bytes ≤ 512)
theorem keptLen_eq (keep : List Bool) (torn bytes : Int) (j : Nat) : keptLen keep torn bytes j = if tornB torn bytes j then bytes.toNat else if keptB keep j then 512 else 0 := by
  unfold keptLen tornB keptB
  simp only [decide_eq_true_eq]
section
variable {w : World} {F : List Nat} {g n : Nat} {D : DiskSt}
end
end Go.Proofs.YtihljjfnjclefaaDoor
/- A disk and the reference's disk, side by side. -/
set_option linter.unusedVariables false
set_option linter.unusedSimpArgs false
namespace Go.Proofs.YtihljjfnjclefaaDoor
open Go.ChangeShapes Go.WideShapes Go.ChangeAt Go.RowKit Go.MapKept

structure Two (w0 w : World) (F : List Nat) (g : Nat) (G : List Nat) (h n : Nat) (D D2 : DiskSt) : Prop where
  dw : DW w0 w F g n D
  rd : RDsk w G h n D2
  own : ∀ x ∈ G, w0.heap.size ≤ x
  dj : ∀ x ∈ F, x ∉ G
section
variable {w0 w w' : World} {F G : List Nat} {g h n : Nat} {D D2 D' : DiskSt}
theorem Two.fb (t : Two w0 w F g G h n D D2) (k : FB w w') : Two w0 w' F g G h n D D2 := ⟨t.dw.fbn k, t.rd.fb k, t.own, t.dj⟩
theorem Two.stepD (t : Two w0 w F g G h n D D2) (k : DskRes w F g n D' w') : ∃ F', Two w0 w' F' g G h n D' D2 ∧ TS F w w' := by
  obtain ⟨F', h1, h2, h3⟩ := t.dw.res k
  refine ⟨F', ⟨h1, t.rd.ts h2 t.dj, t.own, fun x hx hg => ?_⟩, h2⟩
  rcases h3 x hx with h' | h'
  · exact t.dj x h' hg
  · have := t.rd.lt x hg; omega
theorem Two.stepR (t : Two w0 w F g G h n D D2) (k : RRes w G h n D' w') : ∃ G', Two w0 w' F g G' h n D D' ∧ TS G w w' := by
  obtain ⟨G', h1, h2, h3⟩ := k
  have hd : ∀ x ∈ G, x ∉ F := fun x hx hf => t.dj x hf hx
  refine ⟨G', ⟨⟨t.dw.dsk.ts h3 hd, t.dw.fb.ts h3 t.own, t.dw.own⟩, h2, fun x hx => ?_, fun x hx hg => ?_⟩, h3⟩
  · rcases h1 x hx with h' | h'
    · exact t.own x h'
    · exact Nat.le_trans t.dw.fb.le h'
  · rcases h1 x hg with h' | h'
    · exact t.dj x hx h'
    · have := t.dw.dsk.lt x hx; omega
theorem DskRes.of (h : Dsk w' F g n D') (t : TS F w w') : DskRes w F g n D' w' := ⟨F, fun x hx => .inl hx, h, t⟩
theorem RRes.of (h : RDsk w' G g n D') (t : TS G w w') : RRes w G g n D' w' := ⟨G, fun x hx => .inl hx, h, t⟩
/-- A block outside both. -/
theorem Two.keepD (t : Two w0 w F g G h n D D2) (k : TS F w w') {b : Nat} {o : Obj} (hb : w.heap[b]? = some o) (hn : b ∉ F) : w'.heap[b]? = some o := (k.block b (Array.getElem?_eq_some_iff.1 hb).1 hn).trans hb
end
end Go.Proofs.YtihljjfnjclefaaDoor
