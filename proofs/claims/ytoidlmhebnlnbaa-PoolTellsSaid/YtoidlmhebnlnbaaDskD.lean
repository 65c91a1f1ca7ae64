/- A disk: the walk through Write. -/
import Derived.Test.YtoidlmhebnlnbaaDskC
import Derived.Test.YtoidlmhebnlnbaaSched
set_option linter.unusedVariables false
set_option linter.unusedSimpArgs false
namespace Go.Proofs.Ytoidlmhebnlnbaa
open Go.ChangeShapes Go.WideShapes Go.ChangeAt Go.RowKit Go.MapKept

theorem sch_mapUpdate {P : Program} {ops : Array Oper} {Q : Exit → Act → World → Prop} {E : World → World → Prop} {i : Nat} {σ : List (Nat × Bool)} {o : Oper} {a : Act} {w w' : World} (hi : ops[i]? = some o) (hw : Region.wanted o (yielded ops a.tmps) = true)
    (ty : TypeId) (x y z : Operand) (ho : o.op = .mapUpdate ty x y z) (vx vy vz : Value) (hx : a.eval x = vx) (hy : a.eval y = vy) (hz : a.eval z = vz) (hr : (Instr.mapUpdate ty vx vy vz).run P w = .ok () w') (hE : E w w') (h : wpSch P ops Q E σ (a.put o.dst undef) w') : wpSch P ops Q E ((i, false) :: σ) a w := by
  subst hx hy hz
  exact sch_eff hi hw fun K hK => by
    unfold Oper.wp execOp
    simp only [ho, Sem.run_bind, Sem.run_pure, Result.andThen_ok, hr]
    exact hK _ _ hE h
theorem info_int : (Try.prog.info? 3).map (fun i => (i.zero, i.size, i.bytes)) = some (some (.int .i64 0), 1, 8) := by kernel_rfl
theorem keys_len : ∀ (n : Nat) (l : List Int), l.Nodup → (∀ x ∈ l, 0 ≤ x ∧ x < (n : Int)) → l.length ≤ n
  | 0, l, _, h => by
    cases l with
    | nil => simp
    | cons x l => have := h x List.mem_cons_self; omega
  | n + 1, l, hn, h => by
    have h1 := keys_len n (l.erase (n : Int)) (hn.erase _) (fun x hx => by
      rw [hn.mem_erase_iff] at hx
      have := h x hx.2
      omega)
    rw [List.length_erase] at h1
    split at h1 <;> omega
/-- What Write returns, and leaves. -/
def sdWrite (D : DiskSt) (n : Nat) (k : Int) (xs : List Byte) : Int × DiskSt :=
  if k < 0 ∨ (n : Int) ≤ k ∨ xs.length ≠ 512 then (2, D) else if (ffail D.fuse).1 then (8, { D with fuse := (ffail D.fuse).2 })
  else (0, { D with fuse := (ffail D.fuse).2, M := cput D.M k xs })
set_option maxRecDepth 100000 in
set_option maxHeartbeats 1000000 in
theorem dsk_Write {w : World} {F : List Nat} {g n : Nat} {D : DiskSt} (h : Dsk w F g n D) (k : Int) (A : Option Addr) (m ca : Nat) (xs : List Byte) (hm : m = xs.length) (hl : xs.length ≤ 100000000000) (hr : Rd w A xs) (hAF : ∀ ad, A = some ad → ad.block ∉ F) :
    Calls Try.prog 45 #[.pointer (some ⟨g, 0, none⟩), .int .i64 k, .slice A m ca] w fun e w' => e = .returned (.int .i64 (sdWrite D n k xs).1) ∧ DskRes w F g n (sdWrite D n k xs).2 w' := by
  subst hm
  have H := Lib.hid h
  have HR := Lib.hid hr
  unfold sdWrite
  by_cases hneg : k < 0
  · rw [if_pos (.inl hneg)]
    clear h hr
    go_enter Try.func45, Try.ntmps45
    go_wp2_with fail
    refine (dsk_made H.out).mono ?_
    rintro e w1 ⟨rfl, rfl⟩
    go_wp2
    go_ret
    exact ⟨rfl, F, fun x hx => .inl hx, H.out, TS.refl _ _⟩
  · by_cases hbig : (n : Int) ≤ k
    · rw [if_pos (.inr (.inl hbig))]
      clear h hr
      go_enter Try.func45, Try.ntmps45
      go_wp2_with fail
      refine (dsk_made H.out).mono ?_
      rintro e w1 ⟨rfl, rfl⟩
      go_wp2_with fail
      refine (dsk_Sectors H.out).mono ?_
      rintro e w1 ⟨rfl, rfl⟩
      go_wp2
      go_ret
      exact ⟨rfl, F, fun x hx => .inl hx, H.out, TS.refl _ _⟩
    · by_cases hlen : xs.length = 512
      · rw [if_neg (by omega)]
        have HFA := Lib.hid (dsk_fails h)
        have HXL := Lib.hid hlen
        cases hff : (ffail D.fuse).1 with
        | true =>
          rw [if_pos rfl]
          rw [hff] at HFA
          clear h hff hr
          go_enter Try.func45, Try.ntmps45
          go_wp2_with fail
          refine (dsk_made H.out).mono ?_
          rintro e w1 ⟨rfl, rfl⟩
          go_wp2_with fail
          refine (dsk_Sectors H.out).mono ?_
          rintro e w1 ⟨rfl, rfl⟩
          go_wp2_with fail
          refine HFA.out.mono ?_
          rintro e w1 ⟨rfl, hd, ht⟩
          have HD1 := Lib.hid hd
          have HT1 := Lib.hid ht
          clear hd ht
          go_wp2
          go_ret
          exact ⟨rfl, F, fun x hx => .inl hx, HD1.out, HT1.out⟩
        | false =>
          rw [if_neg (by simp)]
          rw [hff] at HFA
          generalize (ffail D.fuse).2 = fz at *
          have hk0 : 0 ≤ k := by omega
          have hkn : k < (n : Int) := by omega
          rw [hlen]
          clear h hff hr hlen
          go_enter Try.func45, Try.ntmps45
          go_wp2_with fail
          refine (dsk_made H.out).mono ?_
          rintro e w1 ⟨rfl, rfl⟩
          go_wp2_with fail
          refine (dsk_Sectors H.out).mono ?_
          rintro e w1 ⟨rfl, rfl⟩
          go_wp2_with fail
          refine HFA.out.mono ?_
          rintro e w1 ⟨rfl, hd, ht⟩
          have HD1 := Lib.hid hd
          have HT1 := Lib.hid ht
          have HR1 := Lib.hid (ht.rd HR.out hAF)
          obtain ⟨gm, q1, hlk⟩ := hd.look k
          clear hd ht
          rcases hlk with ⟨hc, hl⟩ | ⟨A2, c2, x2, hc, hl, -, -, -, -⟩
          · have hl1 := hl true
            rw [if_pos rfl] at hl1
            have HC := Lib.hid (show cget D.M k = none from hc)
            clear hc hl
            obtain ⟨gb, c, gm', O, oc, L, V, hp⟩ := HD1.out.parts
            obtain ⟨p0, p1, p2, p3⟩ := row4 hp.row
            obtain rfl : gm = gm' := by rw [q1] at p1; cases p1; rfl
            have HP := Lib.hid hp
            have HNE := Lib.hid (show g ≠ gm from fun e => by have := hp.nodup; simp [dctl, e] at this)
            clear hp
            have hord := HP.out.order
            rw [List.length_map] at hord
            have hM := HP.out.vals.keys
            obtain ⟨es, clock, m1, m2, m3, m4, m5⟩ := HP.out.map
            rw [hM] at m5
            have hML := keys_len n (D.M.map (·.1)) m5 (fun x hx => by
              obtain ⟨p, hp, rfl⟩ := List.mem_map.1 hx
              have := HD1.out.ok.M p hp
              exact ⟨this.1, this.2.1⟩)
            rw [List.length_map] at hML
            have hn2 := HD1.out.ok.n2
            have HORD := Lib.hid hord
            have HML := Lib.hid (show D.M.length ≤ 32768 by omega)
            clear es clock m1 m2 m3 m4 m5 hM hord hML
            go_wp2_with (at_builtin; refine wpList_append_any rfl _ _ 37 3 8 (.int .i64 0) Try.underlying37 info_int rfl rfl 0 (.slice O D.M.length oc) _ (HORD.out.alloc _) rfl _ _ _ [.int .i64 k] rfl rfl (RdV.lit _ [.int .i64 k] _) (by simp [Value.oneCell']) (by have := HML.out; simp [maxLen]; omega) (by have := HML.out; simp; omega) (by simp) ?_; intro v' w2 ho hg hb; obtain ⟨O2, oc2, hv2, -, -, -, -⟩ := OwnV.form ho; subst hv2; rw [List.length_append, List.length_map, List.length_map, List.length_singleton] at ho hb ⊢; have hg' := hg; rw [← List.length_map (f := fun p : Int × List Byte => p.1)] at hg'; have hk2 := (HP.out.fb ((FB.refl w1).alloc (.cells #[.int .i64 k] 3))).kept hg'; obtain ⟨s0, s1, s2, s3⟩ := row4 hk2; have sf := frozen_row _ hk2 2; have HO2 := Lib.hid ho; have HG2 := Lib.hid hg'; have HB2 := Lib.hid hb; clear ho hg hg' hb hk2)
            obtain ⟨F3, hF3, hp3, ht3⟩ := (HP.out.fb ((FB.refl w1).alloc (.cells #[.int .i64 k] 3))).longer k O2 oc2 (by rw [List.length_map, List.map_append]; exact HO2.out) HG2.out (by have := HB2.out; rw [List.length_map]; exact this)
            rw [List.length_map] at hp3 ht3
            generalize w2.setCell ⟨g, 2, none⟩ (.slice O2 (D.M.length + 1) oc2) = w3 at *
            have HP3 := Lib.hid hp3
            have HT3 := Lib.hid ((TS.of (F := F) ((FB.refl w1).alloc (.cells #[.int .i64 k] 3))).then ht3)
            have HF3 := Lib.hid (show ∀ x ∈ F3, x ∈ F ∨ w1.heap.size ≤ x from fun x hx => (hF3 x hx).imp id (fun h => by simp at h; omega))
            have HR3 := Lib.hid (HT3.out.rd HR1.out hAF)
            have HK3 := Lib.hid (show DskC w3 F3 g n gb c gm O2 oc2 L V { D with fuse := fz } ((cput D.M k xs).map (·.1)) from by rw [cput_none HC.out]; exact hp3)
            have HOK3 := Lib.hid (HD1.out.ok)
            clear hF3 hp3 ht3 HG2 HO2 HB2 HORD HML HP p0 p1 p2 p3 s0 s1 s2 s3 sf q1
            obtain ⟨W3, hW3⟩ : ∃ W3 : World, W3 = w3 := ⟨_, rfl⟩
            subst hW3
            refine region_sch (E := TB (gm)) (((0, true) :: (1, true) :: (2, true) :: (3, true) :: (4, true) :: (5, true) :: (6, false) :: (7, false) :: [])) (by kernel_rfl) (TB.refl _) (fun _ _ _ h k => TB.trans h k) (fun _ _ d _ _ h => by cases d <;> exact h) (by kernel_rfl) ?_
            intro ops hops0
            have hops := Lib.hid hops0
            clear hops0
            have HF : TB (gm) W3 W3.drew := TB.of (FB.refl _).drew
            have HD : FB W3 W3.drew := (FB.refl _).drew
            generalize W3.drew = wF3 at *
            have HP4 := Lib.hid (HK3.out.fb HD)
            have HR4 := Lib.hid (HD.rd HR3.out)
            repeat (refine sch_take (o := ?_) (v := ?_) (a' := ?_) (at_of hops.out ?_) ?_ (fun W hW => ?_) ?_ ?_; rotate_left 3; (focus (simp only [List.getElem?_toArray, List.getElem?_cons_zero, List.getElem?_cons_succ]; rfl)); (focus (rw [hops.out]; rfl)); (focus (obtain ⟨u0, u1, u2, u3⟩ := row4 ((hW.out.block g (Array.getElem?_eq_some_iff.1 HP4.out.row).1 (fun e => HNE.out (by cases e; rfl))).trans HP4.out.row); go_simp; with_reducible rfl)); (focus (simp only [Act.put, List.setIfInBounds_toArray, List.set_cons_zero, List.set_cons_succ]; rfl)))
            (refine sch_call (o := ?_) (f := ?_) (args := ?_) (at_of hops.out ?_) ?_ ?_ ?_; rotate_left 3; (focus (simp only [List.getElem?_toArray, List.getElem?_cons_zero, List.getElem?_cons_succ]; rfl)); (focus (rw [hops.out]; rfl)); (focus (go_simp; constructor <;> with_reducible rfl)); (first | ((with_reducible refine (sl_Clone xs A 512 ca _ HXL.out.symm (by rw [HXL.out]; omega) HR4.out).mono ?_); rintro e w' ⟨A5, c5, rfl, ho, hb⟩; have HO5 := Lib.hid (Own.info ho); have HB5 := Lib.hid (show FB wF3 w' from hb); clear ho; refine ⟨_, rfl, TB.of hb, ?_⟩; intro a' ha'; simp only [Act.put, List.setIfInBounds_toArray, List.set_cons_zero, List.set_cons_succ] at ha'; subst ha'; replace HF := HF.fb hb; clear hb)))
            have hp5 := HP4.out.fb HB5.out
            obtain ⟨w6, hrun, hmap, htb⟩ := map_update Try.underlying68 Try.underlying3 hp5.map k (.slice A5 512 c5)
            (refine sch_mapUpdate (o := ?_) (at_of hops.out ?_) ?_ 68 (.tmp 51) (.tmp 52) (.tmp 54) ?_ _ _ _ ?_ ?_ ?_ hrun htb ?_; rotate_left 1; (focus (simp only [List.getElem?_toArray, List.getElem?_cons_zero, List.getElem?_cons_succ]; rfl)); (focus (rw [hops.out]; rfl)); (focus rfl); (focus rfl); (focus rfl); (focus rfl))
            refine sch_done ?_
            have h5x := HO5.out
            rw [← HXL.out] at hmap
            obtain ⟨F6, h6a, h6b, h6c⟩ := hp5.stored k (x := xs) (A := A5) (ca := c5) h5x.2.2.1 h5x.1 h5x.2.1 (fun ad ha => ⟨(h5x.2.2.2.2 ad ha).2, fun hm => by have := HK3.out.lt _ hm; have := HD.le; have := (h5x.2.2.2.2 ad ha).1; omega⟩) hmap htb
            have HW6 := Lib.hid (h6b.whole (HOK3.out.put hk0 hkn HXL.out))
            have HT6 := Lib.hid ((HT1.out.then (HT3.out.then (TS.of (HD.trans HB5.out)))).trans h6c (fun x hx => (HF3.out x hx).imp id (fun h => Nat.le_trans HT1.out.size h)))
            have HF6 := Lib.hid (show ∀ x ∈ F6, x ∈ F ∨ w.heap.size ≤ x from fun x hx => by
              rcases h6a x hx with hx | hx
              · exact (HF3.out x hx).imp id (fun h => Nat.le_trans HT1.out.size h)
              · right
                cases A5 with
                | none => cases hx
                | some ad =>
                  simp only [optBlk, Option.toList_some, List.map_cons, List.map_nil, List.mem_singleton] at hx
                  subst hx
                  have h1 := (h5x.2.2.2.2 ad rfl).1
                  have h2 := HD.le
                  have h3 := HT3.out.size
                  have h4 := HT1.out.size
                  omega)
            clear hops hrun hmap htb h6a h6b h6c h5x hp5
            go_wp2
            go_ret
            exact ⟨rfl, F6, HF6.out, HW6.out, HT6.out⟩
          · have hl1 := hl true
            rw [if_pos rfl] at hl1
            have HC := Lib.hid (show cget D.M k = some x2 from hc)
            clear hc hl
            obtain ⟨gb, c, gm', O, oc, L, V, hp⟩ := HD1.out.parts
            obtain ⟨p0, p1, p2, p3⟩ := row4 hp.row
            obtain rfl : gm = gm' := by rw [q1] at p1; cases p1; rfl
            have HNE := Lib.hid (show g ≠ gm from fun e => by have := hp.nodup; simp [dctl, e] at this)
            obtain ⟨w3, hw3⟩ : ∃ w3 : World, w3 = w1 := ⟨_, rfl⟩
            have HT3 := Lib.hid (show TS F w1 w3 from by rw [hw3]; exact TS.refl _ _)
            obtain ⟨F3, hF3⟩ : ∃ F3 : List Nat, F3 = F := ⟨_, rfl⟩
            have HF3 := Lib.hid (show ∀ x ∈ F3, x ∈ F ∨ w1.heap.size ≤ x from fun x hx => .inl (hF3 ▸ hx))
            have HK3 := Lib.hid (show DskC w1 F3 g n gb c gm O oc L V { D with fuse := fz } ((cput D.M k xs).map (·.1)) from by rw [cput_some HC.out, hF3]; exact hp)
            have HR3 := Lib.hid HR1.out
            have HOK3 := Lib.hid (HD1.out.ok)
            clear hp
            go_wp2_with fail
            clear p0 p1 p2 p3 q1 hF3
            rw [← hw3] at HK3 HR3 ⊢
            clear hw3
            obtain ⟨W3, hW3⟩ : ∃ W3 : World, W3 = w3 := ⟨_, rfl⟩
            subst hW3
            refine region_sch (E := TB (gm)) (((0, true) :: (1, true) :: (2, true) :: (3, true) :: (4, true) :: (5, true) :: (6, false) :: (7, false) :: [])) (by kernel_rfl) (TB.refl _) (fun _ _ _ h k => TB.trans h k) (fun _ _ d _ _ h => by cases d <;> exact h) (by kernel_rfl) ?_
            intro ops hops0
            have hops := Lib.hid hops0
            clear hops0
            have HF : TB (gm) W3 W3.drew := TB.of (FB.refl _).drew
            have HD : FB W3 W3.drew := (FB.refl _).drew
            generalize W3.drew = wF3 at *
            have HP4 := Lib.hid (HK3.out.fb HD)
            have HR4 := Lib.hid (HD.rd HR3.out)
            repeat (refine sch_take (o := ?_) (v := ?_) (a' := ?_) (at_of hops.out ?_) ?_ (fun W hW => ?_) ?_ ?_; rotate_left 3; (focus (simp only [List.getElem?_toArray, List.getElem?_cons_zero, List.getElem?_cons_succ]; rfl)); (focus (rw [hops.out]; rfl)); (focus (obtain ⟨u0, u1, u2, u3⟩ := row4 ((hW.out.block g (Array.getElem?_eq_some_iff.1 HP4.out.row).1 (fun e => HNE.out (by cases e; rfl))).trans HP4.out.row); go_simp; with_reducible rfl)); (focus (simp only [Act.put, List.setIfInBounds_toArray, List.set_cons_zero, List.set_cons_succ]; rfl)))
            (refine sch_call (o := ?_) (f := ?_) (args := ?_) (at_of hops.out ?_) ?_ ?_ ?_; rotate_left 3; (focus (simp only [List.getElem?_toArray, List.getElem?_cons_zero, List.getElem?_cons_succ]; rfl)); (focus (rw [hops.out]; rfl)); (focus (go_simp; constructor <;> with_reducible rfl)); (first | ((with_reducible refine (sl_Clone xs A 512 ca _ HXL.out.symm (by rw [HXL.out]; omega) HR4.out).mono ?_); rintro e w' ⟨A5, c5, rfl, ho, hb⟩; have HO5 := Lib.hid (Own.info ho); have HB5 := Lib.hid (show FB wF3 w' from hb); clear ho; refine ⟨_, rfl, TB.of hb, ?_⟩; intro a' ha'; simp only [Act.put, List.setIfInBounds_toArray, List.set_cons_zero, List.set_cons_succ] at ha'; subst ha'; replace HF := HF.fb hb; clear hb)))
            have hp5 := HP4.out.fb HB5.out
            obtain ⟨w6, hrun, hmap, htb⟩ := map_update Try.underlying68 Try.underlying3 hp5.map k (.slice A5 512 c5)
            (refine sch_mapUpdate (o := ?_) (at_of hops.out ?_) ?_ 68 (.tmp 51) (.tmp 52) (.tmp 54) ?_ _ _ _ ?_ ?_ ?_ hrun htb ?_; rotate_left 1; (focus (simp only [List.getElem?_toArray, List.getElem?_cons_zero, List.getElem?_cons_succ]; rfl)); (focus (rw [hops.out]; rfl)); (focus rfl); (focus rfl); (focus rfl); (focus rfl))
            refine sch_done ?_
            have h5x := HO5.out
            rw [← HXL.out] at hmap
            obtain ⟨F6, h6a, h6b, h6c⟩ := hp5.stored k (x := xs) (A := A5) (ca := c5) h5x.2.2.1 h5x.1 h5x.2.1 (fun ad ha => ⟨(h5x.2.2.2.2 ad ha).2, fun hm => by have := HK3.out.lt _ hm; have := HD.le; have := (h5x.2.2.2.2 ad ha).1; omega⟩) hmap htb
            have HW6 := Lib.hid (h6b.whole (HOK3.out.put hk0 hkn HXL.out))
            have HT6 := Lib.hid ((HT1.out.then (HT3.out.then (TS.of (HD.trans HB5.out)))).trans h6c (fun x hx => (HF3.out x hx).imp id (fun h => Nat.le_trans HT1.out.size h)))
            have HF6 := Lib.hid (show ∀ x ∈ F6, x ∈ F ∨ w.heap.size ≤ x from fun x hx => by
              rcases h6a x hx with hx | hx
              · exact (HF3.out x hx).imp id (fun h => Nat.le_trans HT1.out.size h)
              · right
                cases A5 with
                | none => cases hx
                | some ad =>
                  simp only [optBlk, Option.toList_some, List.map_cons, List.map_nil, List.mem_singleton] at hx
                  subst hx
                  have h1 := (h5x.2.2.2.2 ad rfl).1
                  have h2 := HD.le
                  have h3 := HT3.out.size
                  have h4 := HT1.out.size
                  omega)
            clear hops hrun hmap htb h6a h6b h6c h5x hp5
            go_wp2
            go_ret
            exact ⟨rfl, F6, HF6.out, HW6.out, HT6.out⟩
      · rw [if_pos (.inr (.inr hlen))]
        have hne : ((xs.length : Int) != 512) = true := by simp; omega
        clear h hr hlen
        go_enter Try.func45, Try.ntmps45
        go_wp2_with fail
        refine (dsk_made H.out).mono ?_
        rintro e w1 ⟨rfl, rfl⟩
        go_wp2_with fail
        refine (dsk_Sectors H.out).mono ?_
        rintro e w1 ⟨rfl, rfl⟩
        go_wp2
        go_ret
        exact ⟨rfl, F, fun x hx => .inl hx, H.out, TS.refl _ _⟩
end Go.Proofs.Ytoidlmhebnlnbaa
