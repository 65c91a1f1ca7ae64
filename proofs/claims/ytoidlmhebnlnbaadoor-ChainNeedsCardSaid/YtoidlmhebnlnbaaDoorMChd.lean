/- Walks and laws that the claim's last text stands on, several texts in one file: DskD, Mk, DskE, DskF, DskG, DskH, DskI, DskJ, DskP, DskQ. Under the hypotheses that each theorem states. -/
import Derived.Laws.OwnMore
import Derived.Laws.CopyOwn
import Derived.Test.YtoidlmhebnlnbaaDoorMCha
import Derived.Test.YtoidlmhebnlnbaaDoorMChb
import Derived.Test.YtoidlmhebnlnbaaDoorMChc
/- A disk: the walk through Write. -/
set_option linter.unusedVariables false
set_option linter.unusedSimpArgs false
namespace Go.Proofs.YtoidlmhebnlnbaaDoor
open Go.ChangeShapes Go.WideShapes Go.ChangeAt Go.RowKit Go.MapKept

theorem sch_mapUpdate {P : Program} {ops : Array Oper} {Q : Exit → Act → World → Prop} {E : World → World → Prop} {i : Nat} {σ : List (Nat × Bool)} {o : Oper} {a : Act} {w w' : World} (hi : ops[i]? = some o) (hw : Region.wanted o (yielded ops a.tmps) = true)
    (ty : TypeId) (x y z : Operand) (ho : o.op = .mapUpdate ty x y z) (vx vy vz : Value) (hx : a.eval x = vx) (hy : a.eval y = vy) (hz : a.eval z = vz) (hr : (Instr.mapUpdate ty vx vy vz).run P w = .ok () w') (hE : E w w') (h : wpSch P ops Q E σ (a.put o.dst undef) w') : wpSch P ops Q E ((i, false) :: σ) a w := by
  subst hx hy hz
  exact sch_eff hi hw fun K hK => by
    unfold Oper.wp execOp
    simp only [ho, Sem.run_bind, Sem.run_pure, Result.andThen_ok, hr]
    exact hK _ _ hE h
theorem info_int : (Tryd.prog.info? 3).map (fun i => (i.zero, i.size, i.bytes)) = some (some (.int .i64 0), 1, 8) := by kernel_rfl
theorem keys_len : ∀ (n : Nat) (l : List Int), l.Nodup → (∀ x ∈ l, 0 ≤ x ∧ x < (n : Int)) → l.length ≤ n
  | 0, l, _, h => by
    cases l with
    | nil => simp
    | cons x l => have := h x List.mem_cons_self; omega
  | n + 1, l, hn, h => by
    have h1 := keys_len n (l.erase (n : Int)) (hn.erase _) (fun x hx => by
      rw [hn.mem_erase_iff] at hx
      have := h x hx.2
      omega)
    rw [List.length_erase] at h1
    split at h1 <;> omega
/-- What Write returns, and leaves. -/
def sdWrite (D : DiskSt) (n : Nat) (k : Int) (xs : List Byte) : Int × DiskSt :=
  if k < 0 ∨ (n : Int) ≤ k ∨ xs.length ≠ 512 then (2, D) else if (ffail D.fuse).1 then (8, { D with fuse := (ffail D.fuse).2 })
  else (0, { D with fuse := (ffail D.fuse).2, M := cput D.M k xs })
set_option maxRecDepth 100000 in
set_option maxHeartbeats 1000000 in
theorem dsk_Write {w : World} {F : List Nat} {g n : Nat} {D : DiskSt} (h : Dsk w F g n D) (k : Int) (A : Option Addr) (m ca : Nat) (xs : List Byte) (hm : m = xs.length) (hl : xs.length ≤ 100000000000) (hr : Rd w A xs) (hAF : ∀ ad, A = some ad → ad.block ∉ F) :
    Calls Tryd.prog 75 #[.pointer (some ⟨g, 0, none⟩), .int .i64 k, .slice A m ca] w fun e w' => e = .returned (.int .i64 (sdWrite D n k xs).1) ∧ DskRes w F g n (sdWrite D n k xs).2 w' := by
  subst hm
  have H := Lib.hid h
  have HR := Lib.hid hr
  unfold sdWrite
  by_cases hneg : k < 0
  · rw [if_pos (.inl hneg)]
    clear h hr
    go_enter Tryd.func75, Tryd.ntmps75
    go_wp2_with fail
    refine (dsk_made H.out).mono ?_
    rintro e w1 ⟨rfl, rfl⟩
    go_wp2
    go_ret
    exact ⟨rfl, F, fun x hx => .inl hx, H.out, TS.refl _ _⟩
  · by_cases hbig : (n : Int) ≤ k
    · rw [if_pos (.inr (.inl hbig))]
      clear h hr
      go_enter Tryd.func75, Tryd.ntmps75
      go_wp2_with fail
      refine (dsk_made H.out).mono ?_
      rintro e w1 ⟨rfl, rfl⟩
      go_wp2_with fail
      refine (dsk_Sectors H.out).mono ?_
      rintro e w1 ⟨rfl, rfl⟩
      go_wp2
      go_ret
      exact ⟨rfl, F, fun x hx => .inl hx, H.out, TS.refl _ _⟩
    · by_cases hlen : xs.length = 512
      · rw [if_neg (by omega)]
        have HFA := Lib.hid (dsk_fails h)
        have HXL := Lib.hid hlen
        cases hff : (ffail D.fuse).1 with
        | true =>
          rw [if_pos rfl]
          rw [hff] at HFA
          clear h hff hr
          go_enter Tryd.func75, Tryd.ntmps75
          go_wp2_with fail
          refine (dsk_made H.out).mono ?_
          rintro e w1 ⟨rfl, rfl⟩
          go_wp2_with fail
          refine (dsk_Sectors H.out).mono ?_
          rintro e w1 ⟨rfl, rfl⟩
          go_wp2_with fail
          refine HFA.out.mono ?_
          rintro e w1 ⟨rfl, hd, ht⟩
          have HD1 := Lib.hid hd
          have HT1 := Lib.hid ht
          clear hd ht
          go_wp2
          go_ret
          exact ⟨rfl, F, fun x hx => .inl hx, HD1.out, HT1.out⟩
        | false =>
          rw [if_neg (by simp)]
          rw [hff] at HFA
          generalize (ffail D.fuse).2 = fz at *
          have hk0 : 0 ≤ k := by omega
          have hkn : k < (n : Int) := by omega
          rw [hlen]
          clear h hff hr hlen
          go_enter Tryd.func75, Tryd.ntmps75
          go_wp2_with fail
          refine (dsk_made H.out).mono ?_
          rintro e w1 ⟨rfl, rfl⟩
          go_wp2_with fail
          refine (dsk_Sectors H.out).mono ?_
          rintro e w1 ⟨rfl, rfl⟩
          go_wp2_with fail
          refine HFA.out.mono ?_
          rintro e w1 ⟨rfl, hd, ht⟩
          have HD1 := Lib.hid hd
          have HT1 := Lib.hid ht
          have HR1 := Lib.hid (ht.rd HR.out hAF)
          obtain ⟨gm, q1, hlk⟩ := hd.look k
          clear hd ht
          rcases hlk with ⟨hc, hl⟩ | ⟨A2, c2, x2, hc, hl, -, -, -, -⟩
          · have hl1 := hl true
            rw [if_pos rfl] at hl1
            have HC := Lib.hid (show cget D.M k = none from hc)
            clear hc hl
            obtain ⟨gb, c, gm', O, oc, L, V, hp⟩ := HD1.out.parts
            obtain ⟨p0, p1, p2, p3⟩ := row4 hp.row
            obtain rfl : gm = gm' := by rw [q1] at p1; cases p1; rfl
            have HP := Lib.hid hp
            have HNE := Lib.hid (show g ≠ gm from fun e => by have := hp.nodup; simp [dctl, e] at this)
            clear hp
            have hord := HP.out.order
            rw [List.length_map] at hord
            have hM := HP.out.vals.keys
            obtain ⟨es, clock, m1, m2, m3, m4, m5⟩ := HP.out.map
            rw [hM] at m5
            have hML := keys_len n (D.M.map (·.1)) m5 (fun x hx => by
              obtain ⟨p, hp, rfl⟩ := List.mem_map.1 hx
              have := HD1.out.ok.M p hp
              exact ⟨this.1, this.2.1⟩)
            rw [List.length_map] at hML
            have hn2 := HD1.out.ok.n2
            have HORD := Lib.hid hord
            have HML := Lib.hid (show D.M.length ≤ 32768 by omega)
            clear es clock m1 m2 m3 m4 m5 hM hord hML
            go_wp2_with (at_builtin; refine wpList_append_any rfl _ _ 26 3 8 (.int .i64 0) Tryd.underlying26 info_int rfl rfl 0 (.slice O D.M.length oc) _ (HORD.out.alloc _) rfl _ _ _ [.int .i64 k] rfl rfl (RdV.lit _ [.int .i64 k] _) (by simp [Value.oneCell']) (by have := HML.out; simp [maxLen]; omega) (by have := HML.out; simp; omega) (by simp) ?_; intro v' w2 ho hg hb; obtain ⟨O2, oc2, hv2, -, -, -, -⟩ := OwnV.form ho; subst hv2; rw [List.length_append, List.length_map, List.length_map, List.length_singleton] at ho hb ⊢; have hg' := hg; rw [← List.length_map (f := fun p : Int × List Byte => p.1)] at hg'; have hk2 := (HP.out.fb ((FB.refl w1).alloc (.cells #[.int .i64 k] 3))).kept hg'; obtain ⟨s0, s1, s2, s3⟩ := row4 hk2; have sf := frozen_row _ hk2 2; have HO2 := Lib.hid ho; have HG2 := Lib.hid hg'; have HB2 := Lib.hid hb; clear ho hg hg' hb hk2)
            obtain ⟨F3, hF3, hp3, ht3⟩ := (HP.out.fb ((FB.refl w1).alloc (.cells #[.int .i64 k] 3))).longer k O2 oc2 (by rw [List.length_map, List.map_append]; exact HO2.out) HG2.out (by have := HB2.out; rw [List.length_map]; exact this)
            rw [List.length_map] at hp3 ht3
            generalize w2.setCell ⟨g, 2, none⟩ (.slice O2 (D.M.length + 1) oc2) = w3 at *
            have HP3 := Lib.hid hp3
            have HT3 := Lib.hid ((TS.of (F := F) ((FB.refl w1).alloc (.cells #[.int .i64 k] 3))).then ht3)
            have HF3 := Lib.hid (show ∀ x ∈ F3, x ∈ F ∨ w1.heap.size ≤ x from fun x hx => (hF3 x hx).imp id (fun h => by simp at h; omega))
            have HR3 := Lib.hid (HT3.out.rd HR1.out hAF)
            have HK3 := Lib.hid (show DskC w3 F3 g n gb c gm O2 oc2 L V { D with fuse := fz } ((cput D.M k xs).map (·.1)) from by rw [cput_none HC.out]; exact hp3)
            have HOK3 := Lib.hid (HD1.out.ok)
            clear hF3 hp3 ht3 HG2 HO2 HB2 HORD HML HP p0 p1 p2 p3 s0 s1 s2 s3 sf q1
            obtain ⟨W3, hW3⟩ : ∃ W3 : World, W3 = w3 := ⟨_, rfl⟩
            subst hW3
            refine region_sch (E := TB (gm)) (((0, true) :: (1, true) :: (2, true) :: (3, true) :: (4, true) :: (5, true) :: (6, false) :: (7, false) :: [])) (by kernel_rfl) (TB.refl _) (fun _ _ _ h k => TB.trans h k) (fun _ _ d _ _ h => by cases d <;> exact h) (by kernel_rfl) ?_
            intro ops hops0
            have hops := Lib.hid hops0
            clear hops0
            have HF : TB (gm) W3 W3.drew := TB.of (FB.refl _).drew
            have HD : FB W3 W3.drew := (FB.refl _).drew
            generalize W3.drew = wF3 at *
            have HP4 := Lib.hid (HK3.out.fb HD)
            have HR4 := Lib.hid (HD.rd HR3.out)
            repeat (refine sch_take (o := ?_) (v := ?_) (a' := ?_) (at_of hops.out ?_) ?_ (fun W hW => ?_) ?_ ?_; rotate_left 3; (focus (simp only [List.getElem?_toArray, List.getElem?_cons_zero, List.getElem?_cons_succ]; rfl)); (focus (rw [hops.out]; rfl)); (focus (obtain ⟨u0, u1, u2, u3⟩ := row4 ((hW.out.block g (Array.getElem?_eq_some_iff.1 HP4.out.row).1 (fun e => HNE.out (by cases e; rfl))).trans HP4.out.row); go_simp; with_reducible rfl)); (focus (simp only [Act.put, List.setIfInBounds_toArray, List.set_cons_zero, List.set_cons_succ]; rfl)))
            (refine sch_call (o := ?_) (f := ?_) (args := ?_) (at_of hops.out ?_) ?_ ?_ ?_; rotate_left 3; (focus (simp only [List.getElem?_toArray, List.getElem?_cons_zero, List.getElem?_cons_succ]; rfl)); (focus (rw [hops.out]; rfl)); (focus (go_simp; constructor <;> with_reducible rfl)); (first | ((with_reducible refine (sl_Clone xs A 512 ca _ HXL.out.symm (by rw [HXL.out]; omega) HR4.out).mono ?_); rintro e w' ⟨A5, c5, rfl, ho, hb⟩; have HO5 := Lib.hid (Own.info ho); have HB5 := Lib.hid (show FB wF3 w' from hb); clear ho; refine ⟨_, rfl, TB.of hb, ?_⟩; intro a' ha'; simp only [Act.put, List.setIfInBounds_toArray, List.set_cons_zero, List.set_cons_succ] at ha'; subst ha'; replace HF := HF.fb hb; clear hb)))
            have hp5 := HP4.out.fb HB5.out
            obtain ⟨w6, hrun, hmap, htb⟩ := map_update Tryd.underlying99 Tryd.underlying3 hp5.map k (.slice A5 512 c5)
            (refine sch_mapUpdate (o := ?_) (at_of hops.out ?_) ?_ 99 (.tmp 51) (.tmp 52) (.tmp 54) ?_ _ _ _ ?_ ?_ ?_ hrun htb ?_; rotate_left 1; (focus (simp only [List.getElem?_toArray, List.getElem?_cons_zero, List.getElem?_cons_succ]; rfl)); (focus (rw [hops.out]; rfl)); (focus rfl); (focus rfl); (focus rfl); (focus rfl))
            refine sch_done ?_
            have h5x := HO5.out
            rw [← HXL.out] at hmap
            obtain ⟨F6, h6a, h6b, h6c⟩ := hp5.stored k (x := xs) (A := A5) (ca := c5) h5x.2.2.1 h5x.1 h5x.2.1 (fun ad ha => ⟨(h5x.2.2.2.2 ad ha).2, fun hm => by have := HK3.out.lt _ hm; have := HD.le; have := (h5x.2.2.2.2 ad ha).1; omega⟩) hmap htb
            have HW6 := Lib.hid (h6b.whole (HOK3.out.put hk0 hkn HXL.out))
            have HT6 := Lib.hid ((HT1.out.then (HT3.out.then (TS.of (HD.trans HB5.out)))).trans h6c (fun x hx => (HF3.out x hx).imp id (fun h => Nat.le_trans HT1.out.size h)))
            have HF6 := Lib.hid (show ∀ x ∈ F6, x ∈ F ∨ w.heap.size ≤ x from fun x hx => by
              rcases h6a x hx with hx | hx
              · exact (HF3.out x hx).imp id (fun h => Nat.le_trans HT1.out.size h)
              · right
                cases A5 with
                | none => cases hx
                | some ad =>
                  simp only [optBlk, Option.toList_some, List.map_cons, List.map_nil, List.mem_singleton] at hx
                  subst hx
                  have h1 := (h5x.2.2.2.2 ad rfl).1
                  have h2 := HD.le
                  have h3 := HT3.out.size
                  have h4 := HT1.out.size
                  omega)
            clear hops hrun hmap htb h6a h6b h6c h5x hp5
            go_wp2
            go_ret
            exact ⟨rfl, F6, HF6.out, HW6.out, HT6.out⟩
          · have hl1 := hl true
            rw [if_pos rfl] at hl1
            have HC := Lib.hid (show cget D.M k = some x2 from hc)
            clear hc hl
            obtain ⟨gb, c, gm', O, oc, L, V, hp⟩ := HD1.out.parts
            obtain ⟨p0, p1, p2, p3⟩ := row4 hp.row
            obtain rfl : gm = gm' := by rw [q1] at p1; cases p1; rfl
            have HNE := Lib.hid (show g ≠ gm from fun e => by have := hp.nodup; simp [dctl, e] at this)
            obtain ⟨w3, hw3⟩ : ∃ w3 : World, w3 = w1 := ⟨_, rfl⟩
            have HT3 := Lib.hid (show TS F w1 w3 from by rw [hw3]; exact TS.refl _ _)
            obtain ⟨F3, hF3⟩ : ∃ F3 : List Nat, F3 = F := ⟨_, rfl⟩
            have HF3 := Lib.hid (show ∀ x ∈ F3, x ∈ F ∨ w1.heap.size ≤ x from fun x hx => .inl (hF3 ▸ hx))
            have HK3 := Lib.hid (show DskC w1 F3 g n gb c gm O oc L V { D with fuse := fz } ((cput D.M k xs).map (·.1)) from by rw [cput_some HC.out, hF3]; exact hp)
            have HR3 := Lib.hid HR1.out
            have HOK3 := Lib.hid (HD1.out.ok)
            clear hp
            go_wp2_with fail
            clear p0 p1 p2 p3 q1 hF3
            rw [← hw3] at HK3 HR3 ⊢
            clear hw3
            obtain ⟨W3, hW3⟩ : ∃ W3 : World, W3 = w3 := ⟨_, rfl⟩
            subst hW3
            refine region_sch (E := TB (gm)) (((0, true) :: (1, true) :: (2, true) :: (3, true) :: (4, true) :: (5, true) :: (6, false) :: (7, false) :: [])) (by kernel_rfl) (TB.refl _) (fun _ _ _ h k => TB.trans h k) (fun _ _ d _ _ h => by cases d <;> exact h) (by kernel_rfl) ?_
            intro ops hops0
            have hops := Lib.hid hops0
            clear hops0
            have HF : TB (gm) W3 W3.drew := TB.of (FB.refl _).drew
            have HD : FB W3 W3.drew := (FB.refl _).drew
            generalize W3.drew = wF3 at *
            have HP4 := Lib.hid (HK3.out.fb HD)
            have HR4 := Lib.hid (HD.rd HR3.out)
            repeat (refine sch_take (o := ?_) (v := ?_) (a' := ?_) (at_of hops.out ?_) ?_ (fun W hW => ?_) ?_ ?_; rotate_left 3; (focus (simp only [List.getElem?_toArray, List.getElem?_cons_zero, List.getElem?_cons_succ]; rfl)); (focus (rw [hops.out]; rfl)); (focus (obtain ⟨u0, u1, u2, u3⟩ := row4 ((hW.out.block g (Array.getElem?_eq_some_iff.1 HP4.out.row).1 (fun e => HNE.out (by cases e; rfl))).trans HP4.out.row); go_simp; with_reducible rfl)); (focus (simp only [Act.put, List.setIfInBounds_toArray, List.set_cons_zero, List.set_cons_succ]; rfl)))
            (refine sch_call (o := ?_) (f := ?_) (args := ?_) (at_of hops.out ?_) ?_ ?_ ?_; rotate_left 3; (focus (simp only [List.getElem?_toArray, List.getElem?_cons_zero, List.getElem?_cons_succ]; rfl)); (focus (rw [hops.out]; rfl)); (focus (go_simp; constructor <;> with_reducible rfl)); (first | ((with_reducible refine (sl_Clone xs A 512 ca _ HXL.out.symm (by rw [HXL.out]; omega) HR4.out).mono ?_); rintro e w' ⟨A5, c5, rfl, ho, hb⟩; have HO5 := Lib.hid (Own.info ho); have HB5 := Lib.hid (show FB wF3 w' from hb); clear ho; refine ⟨_, rfl, TB.of hb, ?_⟩; intro a' ha'; simp only [Act.put, List.setIfInBounds_toArray, List.set_cons_zero, List.set_cons_succ] at ha'; subst ha'; replace HF := HF.fb hb; clear hb)))
            have hp5 := HP4.out.fb HB5.out
            obtain ⟨w6, hrun, hmap, htb⟩ := map_update Tryd.underlying99 Tryd.underlying3 hp5.map k (.slice A5 512 c5)
            (refine sch_mapUpdate (o := ?_) (at_of hops.out ?_) ?_ 99 (.tmp 51) (.tmp 52) (.tmp 54) ?_ _ _ _ ?_ ?_ ?_ hrun htb ?_; rotate_left 1; (focus (simp only [List.getElem?_toArray, List.getElem?_cons_zero, List.getElem?_cons_succ]; rfl)); (focus (rw [hops.out]; rfl)); (focus rfl); (focus rfl); (focus rfl); (focus rfl))
            refine sch_done ?_
            have h5x := HO5.out
            rw [← HXL.out] at hmap
            obtain ⟨F6, h6a, h6b, h6c⟩ := hp5.stored k (x := xs) (A := A5) (ca := c5) h5x.2.2.1 h5x.1 h5x.2.1 (fun ad ha => ⟨(h5x.2.2.2.2 ad ha).2, fun hm => by have := HK3.out.lt _ hm; have := HD.le; have := (h5x.2.2.2.2 ad ha).1; omega⟩) hmap htb
            have HW6 := Lib.hid (h6b.whole (HOK3.out.put hk0 hkn HXL.out))
            have HT6 := Lib.hid ((HT1.out.then (HT3.out.then (TS.of (HD.trans HB5.out)))).trans h6c (fun x hx => (HF3.out x hx).imp id (fun h => Nat.le_trans HT1.out.size h)))
            have HF6 := Lib.hid (show ∀ x ∈ F6, x ∈ F ∨ w.heap.size ≤ x from fun x hx => by
              rcases h6a x hx with hx | hx
              · exact (HF3.out x hx).imp id (fun h => Nat.le_trans HT1.out.size h)
              · right
                cases A5 with
                | none => cases hx
                | some ad =>
                  simp only [optBlk, Option.toList_some, List.map_cons, List.map_nil, List.mem_singleton] at hx
                  subst hx
                  have h1 := (h5x.2.2.2.2 ad rfl).1
                  have h2 := HD.le
                  have h3 := HT3.out.size
                  have h4 := HT1.out.size
                  omega)
            clear hops hrun hmap htb h6a h6b h6c h5x hp5
            go_wp2
            go_ret
            exact ⟨rfl, F6, HF6.out, HW6.out, HT6.out⟩
      · rw [if_pos (.inr (.inr hlen))]
        have hne : ((xs.length : Int) != 512) = true := by simp; omega
        clear h hr hlen
        go_enter Tryd.func75, Tryd.ntmps75
        go_wp2_with fail
        refine (dsk_made H.out).mono ?_
        rintro e w1 ⟨rfl, rfl⟩
        go_wp2_with fail
        refine (dsk_Sectors H.out).mono ?_
        rintro e w1 ⟨rfl, rfl⟩
        go_wp2
        go_ret
        exact ⟨rfl, F, fun x hx => .inl hx, H.out, TS.refl _ _⟩
end Go.Proofs.YtoidlmhebnlnbaaDoor
/- make([]byte, n): noughts. -/
set_option linter.unusedVariables false
set_option linter.unusedSimpArgs false
namespace Go.Proofs.YtoidlmhebnlnbaaDoor
open Go.ChangeShapes Go.WideShapes Go.ChangeAt Go.RowKit

theorem vbs_zeros (n : Nat) : vbs (List.replicate n 0#8) = List.replicate n (.int .u8 0) := by simp [vbs, vb, nb]
theorem mk_bytes (k : Int) (n : Nat) (hk : k = n) (hn : n ≤ 1000000000) : ∃ C : Array Value,
    (∀ W : World, (Instr.makeSlice 27 (.int .i64 k) (.int .i64 k)).run Tryd.prog W = .ok (.slice (some ⟨W.heap.size, 0, none⟩) n n) (W.alloc (.cells C 5))) ∧
    C = (vbs (List.replicate n 0#8)).toArray := by
  subst hk
  obtain ⟨i, hi, hz, hsz, hb⟩ := info_parts info_u8
  refine ⟨madeCells #[.int .u8 0] n, fun W => ?_, ?_⟩
  · have h := run_make (P := Tryd.prog) W 27 5 i _ Tryd.underlying27 hi hz .i64 .i64 (n : Int) (n : Int) (by omega) (Int.le_refl _) (by rw [hb]; omega) (by omega)
    rw [hsz] at h
    simpa [Value.cells] using h
  · rw [vbs_zeros, ← toList_madeCells_one]
theorem rd_mk {C : Array Value} {n : Nat} (hC : C = (vbs (List.replicate n 0#8)).toArray) (W : World) (g : Nat) (hg : g = W.heap.size) : Rd (W.alloc (.cells C 5)) (some ⟨g, 0, none⟩) (List.replicate n 0#8) := by
  subst hC; exact RdV.lit W _ _ hg
end Go.Proofs.YtoidlmhebnlnbaaDoor
/- A disk: the walks through Of, New, Image, Cached. -/
set_option linter.unusedVariables false
set_option linter.unusedSimpArgs false
namespace Go.Proofs.YtoidlmhebnlnbaaDoor
open Go.ChangeShapes Go.WideShapes Go.ChangeAt Go.RowKit Go.MapKept

theorem Own.head0 {w : World} {base n : Nat} {A : Option Addr} {c : Nat} {xs : List Byte} (h : Own w base (.slice A n c) xs) (hn : 0 < n) : ∃ g, A = some ⟨g, 0, none⟩ ∧ base ≤ g ∧ g < w.heap.size := by
  rcases h.2 with ⟨h', h0⟩ | ⟨g, cap, cur, h', hb, hg, _⟩
  · simp at h'; omega
  · simp only [Value.slice.injEq] at h'
    exact ⟨g, h'.1, hb, (Array.getElem?_eq_some_iff.1 hg).1⟩
/-- A new disk. -/
theorem Dsk.new {w w1 : World} {n gb c : Nat} {xs : List Byte} (hF : FB w w1) (ho : Own w1 w.heap.size (.slice (some ⟨gb, 0, none⟩) (512 * n) c) xs) (hl : xs.length = 512 * n) (h1 : 1 ≤ n) (h2 : n ≤ 32768) :
    Dsk ((w1.alloc (.map #[] 0)).alloc (.cells #[.slice (some ⟨gb, 0, none⟩) (512 * n) c, .map (some w1.heap.size), .slice none 0 0, .pointer none] 102)) [w1.heap.size + 1, gb, w1.heap.size] (w1.heap.size + 1) n ⟨xs, [], none⟩ := by
  have hgb := OwnV.base ho gb rfl
  have hle := hF.le
  have hsz : (w1.alloc (.map #[] 0)).heap.size = w1.heap.size + 1 := by simp
  refine ⟨gb, c, w1.heap.size, none, 0, none, [], ?_, ?_, ?_, .nil, OwnV.nil _ _ _, trivial, ?_, ?_, ⟨hl, h1, h2, by simp, by simp⟩, ?_⟩
  · rw [← hsz]; exact heap_alloc_new _ _
  · exact (((ho.alloc _).alloc _).lower (Nat.zero_le _))
  · exact (MapAt.new w1).ts (TS.of (F := []) ((FB.refl _).alloc _)) (by simp)
  · simp [optBlk]; omega
  · simp [optBlk]
  · intro x hx
    simp at hx ⊢
    omega
set_option maxRecDepth 100000 in
set_option maxHeartbeats 1000000 in
theorem dsk_Of_ok (n : Nat) (h1 : 1 ≤ n) (h2 : n ≤ 32768) (A : Option Addr) (m ca : Nat) (xs : List Byte) (w : World) (hm : m = 512 * n) (hl : xs.length = 512 * n) (hr : Rd w A xs) :
    Calls Tryd.prog 28 #[.slice A m ca] w fun e w' => ∃ F g, e = .returned (.tuple #[.pointer (some ⟨g, 0, none⟩), .int .i64 0]) ∧ Dsk w' F g n ⟨xs, [], none⟩ ∧ FB w w' ∧ (∀ x ∈ F, w.heap.size ≤ x) := by
  subst hm
  have HR := Lib.hid hr
  have HL := Lib.hid hl
  have hmk := @run_makeMap Tryd.prog
  have hq2 : (512 * (n : Int)).tdiv 512 = (n : Int) := by rw [Int.tdiv_eq_ediv_of_nonneg (by omega)]; omega
  have hq3 : (512 * (n : Int)).tmod 512 = 0 := by rw [Int.tmod_eq_emod_of_nonneg (by omega)]; omega
  have hn1 : (n : Int) ≤ 32768 := by omega
  have hn2 : (1 : Int) ≤ (n : Int) := by omega
  clear hr hl
  go_enter Tryd.func28, Tryd.ntmps28
  go_wp2_with fail
  refine (sl_Clone xs A (512 * n) ca _ HL.out.symm (by rw [HL.out]; omega) HR.out).mono ?_
  rintro e w1 ⟨A1, c1, rfl, ho, hb⟩
  obtain ⟨gb, rfl, -, -⟩ := Own.head0 ho (by omega)
  have HF := Lib.hid (show FB w w1 from hb)
  have HD := Lib.hid (Dsk.new hb ho HL.out h1 h2)
  have HG := Lib.hid (show w.heap.size ≤ gb from (OwnV.base ho gb rfl).1)
  clear ho hb
  go_wp2
  go_ret2
  refine ⟨_, _, ?_, HD.out, (HF.out.alloc _).alloc _, ?_⟩
  · first | rfl | simp
  · intro x hx
    have := HF.out.le
    have := HG.out
    simp at hx
    omega
set_option maxRecDepth 100000 in
set_option maxHeartbeats 1000000 in
theorem dsk_Of_bad (A : Option Addr) (m ca : Nat) (w : World) (hmm : m ≤ 9223372036854775807) (hm : m / 512 < 1 ∨ 32768 < m / 512 ∨ m % 512 ≠ 0) :
    Calls Tryd.prog 28 #[.slice A m ca] w fun e w' => e = .returned (.tuple #[.pointer none, .int .i64 2]) ∧ w = w' := by
  have hq2 : (m : Int).tdiv 512 = ((m / 512 : Nat) : Int) := by rw [Int.tdiv_eq_ediv_of_nonneg (by omega)]; omega
  have hq3 : (m : Int).tmod 512 = ((m % 512 : Nat) : Int) := by rw [Int.tmod_eq_emod_of_nonneg (by omega)]; omega
  have hcase : ((m / 512 : Nat) : Int) < 1 ∨ (¬ ((m / 512 : Nat) : Int) < 1 ∧ 32768 < ((m / 512 : Nat) : Int)) ∨ (¬ ((m / 512 : Nat) : Int) < 1 ∧ ¬ 32768 < ((m / 512 : Nat) : Int) ∧ (((m % 512 : Nat) : Int) != 0) = true) := by
    rcases Nat.lt_or_ge (m / 512) 1 with h | h
    · exact .inl (by omega)
    · rcases Nat.lt_or_ge 32768 (m / 512) with h' | h'
      · exact .inr (.inl ⟨by omega, by omega⟩)
      · exact .inr (.inr ⟨by omega, by omega, by simp; omega⟩)
  have hdq : 0 ≤ ((m / 512 : Nat) : Int) := by omega
  have hdq1 : ((m / 512 : Nat) : Int) ≤ 9223372036854775807 := by omega
  have hwq : wrap64 ((m / 512 : Nat) : Int) = ((m / 512 : Nat) : Int) := by have := IntKind.wrap_i64 ((m / 512 : Nat) : Int); unfold wrap64; omega
  clear hm hmm
  generalize ((m / 512 : Nat) : Int) = dq at *
  generalize ((m % 512 : Nat) : Int) = dm at *
  rcases hcase with h | ⟨h, h'⟩ | ⟨h, h', h''⟩
  all_goals
    go_enter Tryd.func28, Tryd.ntmps28
    go_wp2
    go_ret2
    exact ⟨rfl, rfl⟩
set_option maxRecDepth 100000 in
set_option maxHeartbeats 1000000 in
theorem dsk_New_ok (n : Nat) (h1 : 1 ≤ n) (h2 : n ≤ 32768) (w : World) :
    Calls Tryd.prog 9 #[.int .i64 (n : Int)] w fun e w' => ∃ F g, e = .returned (.tuple #[.pointer (some ⟨g, 0, none⟩), .int .i64 0]) ∧ Dsk w' F g n ⟨List.replicate (512 * n) 0#8, [], none⟩ ∧ FB w w' ∧ (∀ x ∈ F, w.heap.size ≤ x) := by
  obtain ⟨C, hmk, hC⟩ := mk_bytes ((n : Int) * 512) (512 * n) (by omega) (by omega)
  have HC := Lib.hid hC
  have hw1 : IntKind.i64.wrap ((n : Int) * 512) = (n : Int) * 512 := by rw [IntKind.wrap_i64]; omega
  clear hC
  go_enter Tryd.func9, Tryd.ntmps9
  go_wp2_with fail
  refine (dsk_Of_ok n h1 h2 _ (512 * n) _ (List.replicate (512 * n) 0#8) _ rfl (by simp) (rd_mk HC.out _ _ rfl)).mono ?_
  rintro e w1 ⟨F, g, rfl, hd, hf, hg⟩
  have HD := Lib.hid hd
  have HF := Lib.hid (((FB.refl w).alloc _).trans hf)
  have HG := Lib.hid (show ∀ x ∈ F, w.heap.size ≤ x from fun x hx => by have := hg x hx; simp at this; omega)
  clear hd hf hg
  go_wp2
  go_ret2
  exact ⟨F, g, rfl, HD.out, HF.out, HG.out⟩
set_option maxRecDepth 100000 in
set_option maxHeartbeats 1000000 in
theorem dsk_New_bad (z : Int) (h : z < 1 ∨ 32768 < z) (w : World) :
    Calls Tryd.prog 9 #[.int .i64 z] w fun e w' => e = .returned (.tuple #[.pointer none, .int .i64 2]) ∧ w = w' := by
  have hcase : z < 1 ∨ (¬ z < 1 ∧ 32768 < z) := by omega
  clear h
  rcases hcase with h | ⟨h, h'⟩
  all_goals
    go_enter Tryd.func9, Tryd.ntmps9
    go_wp2
    go_ret2
    exact ⟨rfl, rfl⟩
end Go.Proofs.YtoidlmhebnlnbaaDoor
/- A disk: bytes copied into a sector. -/
set_option linter.unusedVariables false
set_option linter.unusedSimpArgs false
namespace Go.Proofs.YtoidlmhebnlnbaaDoor
open Go.ChangeShapes Go.WideShapes Go.ChangeAt Go.RowKit Go.MapKept

theorem splice_len {b xs : List Byte} {off : Nat} (h : off + xs.length ≤ b.length) : (splice b off xs).length = b.length := length_splice b off xs h
theorem splice_take {α : Type} (L cs : List α) (off n : Nat) (h : off + cs.length ≤ n) (hL : off ≤ L.length) : (L.take off ++ cs ++ L.drop (off + cs.length)).take n = (L.take n).take off ++ (cs ++ (L.take n).drop (off + cs.length)) := by
  have h1 : (L.take off).length = off := by rw [List.length_take]; omega
  rw [List.append_assoc, List.take_append, List.take_append, h1, List.take_of_length_le (by omega : (L.take off).length ≤ n), List.take_of_length_le (by omega : cs.length ≤ n - off), List.take_take, Nat.min_eq_left (by omega), List.drop_take]
  congr 3
  omega
theorem vbs_splice (b xs : List Byte) (off : Nat) : vbs (splice b off xs) = (vbs b).take off ++ (vbs xs ++ (vbs b).drop (off + xs.length)) := by
  unfold splice
  rw [vbs_append, vbs_append, vbs_take, vbs_drop]
theorem TB.row (g : Nat) (w : World) (cs : Array Value) : TB g w (w.setRow g cs) := ⟨rfl, rfl, rfl, by simp, fun k _ hk => setRow_other w g k cs (fun e => hk (by simp [e]))⟩
theorem run_copy_sec {w : World} {base gb m c : Nat} {b : List Byte} (ho : Own w base (.slice (some ⟨gb, 0, none⟩) m c) b) (off d e : Nat) (A : Option Addr) (ca : Nat) (xs : List Byte) (hr : Rd w A xs) (hx : xs.length ≤ d) (hfit : off + xs.length ≤ b.length) :
    ∃ w', (∀ ty, (Builtin.copy_ #[27, 27] ty #[.slice (some ⟨gb, off, none⟩) d e, .slice A xs.length ca]).run Tryd.prog w = .ok (goInt xs.length) w') ∧ Own w' base (.slice (some ⟨gb, 0, none⟩) m c) (splice b off xs) ∧ TB gb w w' := by
  obtain ⟨i, hi, _, hsz, _⟩ := info_parts info_u8
  have hsz1 : (Tryd.prog.info? 5).map (·.size) = some 1 := by rw [hi]; simp [hsz]
  by_cases h0 : xs.length = 0
  · obtain rfl : xs = [] := List.eq_nil_of_length_eq_zero h0
    refine ⟨w, fun ty => run_copy_none (P := Tryd.prog) w _ _ ty _ _ _ _ _ _ _ Tryd.underlying27 hsz1 (by simp), ?_, TB.refl _ _⟩
    have : splice b off [] = b := by simp [splice]
    rw [this]; exact ho
  · obtain ⟨b0, o0, rfl, hb0, hcell⟩ := hr.form (by omega)
    have hO := ho
    unfold Own OwnV at ho
    rcases ho with ⟨l1, ⟨l2, -⟩ | ⟨g, cap, cur, l3, l4, l5, l6, l7, l8, l9⟩⟩
    · cases l2
    · simp only [Value.slice.injEq, Option.some.injEq, Addr.mk.injEq] at l3
      obtain ⟨⟨rfl, -, -⟩, hm, rfl⟩ := l3
      rw [vbs_length] at l1 l6 l9 hm
      rw [Nat.mul_one] at l1 l8 l9
      have hcl : b.length ≤ cur.size := by omega
      have hrun := fun ty => run_copy_row (P := Tryd.prog) w 27 27 ty 5 gb off d e ⟨b0, o0, none⟩ xs.length ca cur 5 (vbs xs) Tryd.underlying27 hsz1 l5 (by rw [vbs_length]; exact (Nat.min_eq_left hx).symm) (fun j v hj => by
        have hjl : j < xs.length := by
          have := (List.getElem?_eq_some_iff.1 hj).1
          rwa [vbs_length] at this
        have : (⟨b0, o0, none⟩ : Addr).add j = ⟨b0, o0 + j, none⟩ := by unfold Addr.add; split <;> simp_all
        rw [this, hcell j hjl]
        rw [vbs_get? xs j hjl] at hj
        exact hj) (by rw [vbs_length]; omega) (vbs_oneCell xs)
      simp only [vbs_length] at hrun
      refine ⟨_, hrun, ?_, TB.row _ _ _⟩
      have hrow := setRow_heap w gb cur (cur.toList.take off ++ vbs xs ++ cur.toList.drop (off + xs.length)).toArray _ _ l5
      unfold Own OwnV
      rw [vbs_length, splice_len hfit]
      refine ⟨by rw [vbs_length, splice_len hfit]; omega, .inr ⟨gb, c, _, by rw [hm], l4, hrow, by omega, l7, ?_, ?_⟩⟩
      · simp only [List.size_toArray, List.length_append, List.length_take, List.length_drop, vbs_length, Array.length_toList]
        omega
      · have hst := splice_take cur.toList (vbs xs) off b.length (by rw [vbs_length]; exact hfit) (by rw [Array.length_toList]; omega)
        rw [vbs_length] at hst
        rw [Nat.mul_one]
        rw [hst, l9, vbs_splice]
/-- Bytes copied into the disk's. -/
theorem DskC.copied {w w' : World} {F : List Nat} {g n gb c gm : Nat} {O : Option Addr} {oc : Nat} {L : Option Nat} {V : List (Int × Value)} {D : DiskSt} {ord : List Int} (h : DskC w F g n gb c gm O oc L V D ord) (b : List Byte) (ho : Own w' 0 (.slice (some ⟨gb, 0, none⟩) (512 * n) c) b) (htb : TB gb w w') :
    DskC w' F g n gb c gm O oc L V { D with b := b } ord ∧ TS F w w' := by
  have hts : TS [gb] w w' := TS.tb htb (by simp)
  have hnd := h.nodup
  unfold dctl at hnd
  have hne : ∀ y ∈ [g, gm] ++ (optBlk O ++ L.toList), y ∉ [gb] := by
    intro y hy hm
    simp only [List.mem_singleton] at hm
    subst hm
    simp only [List.cons_append, List.nil_append, List.nodup_cons, List.mem_cons, List.mem_append, not_or] at hnd hy
    obtain ⟨⟨a1, a2, a3, a4⟩, ⟨b1, b2, b3⟩, ⟨c1, c2⟩, d⟩ := hnd
    rcases hy with rfl | rfl | hy | hy
    · exact a1 rfl
    · exact b1 rfl
    · exact b2 hy
    · exact b3 hy
  refine ⟨⟨?_, ho, h.map.ts hts (hne gm (by simp)), ?_, ?_, ?_, h.nodup, h.mem, fun x hx => Nat.lt_of_lt_of_le (h.lt x hx) hts.size⟩, TS.tb htb (h.mem gb (by simp [dctl]))⟩
  · rw [hts.block g (Array.getElem?_eq_some_iff.1 h.row).1 (hne g (by simp))]; exact h.row
  · exact h.vals.move (fun A x hr hb => hts.rd hr (fun ad ha hf => (hb ad ha).2 (by simp at hf; simp [dctl, hf]))) (fun b hb hb' => ⟨hb, hb'⟩)
  · exact hts.ownV h.order (fun b hb => by
      cases O with
      | none => cases hb
      | some ad => cases hb; exact hne _ (by simp [optBlk]))
  · have h6 := h.fuse
    unfold FuseAt at *
    simp only
    revert h6
    generalize D.fuse = fz
    intro h6
    cases L with
    | none => cases fz with
      | none => trivial
      | some z => exact h6
    | some l => cases fz with
      | none => exact h6
      | some z =>
        simp only at h6 ⊢
        rw [hts.block l (Array.getElem?_eq_some_iff.1 h6).1 (hne l (by simp))]; exact h6
end Go.Proofs.YtoidlmhebnlnbaaDoor
/- A disk: the cache made empty; the walk through Crash. -/
set_option linter.unusedVariables false
set_option linter.unusedSimpArgs false
namespace Go.Proofs.YtoidlmhebnlnbaaDoor
open Go.ChangeShapes Go.WideShapes Go.ChangeAt Go.RowKit Go.MapKept

/-- 'clear(m)' at the operation. -/
theorem wpList_clear_run {P : Program} {ops : Array Oper} {rest : List Oper} {o : Oper} {a : Act} {w : World} {Q : Exit → Act → World → Prop} (hgd : o.guard = none) (x : Operand) (t : TypeId)
    (ho : o.op = .call { callee := .builtin .clear, args := #[x], argTypes := #[t] }) (v : Value) (hx : a.eval x = v) {v' : Value} {w' : World}
    (hr : (Builtin.clear_ #[t] o.type #[v]).run P w = .ok v' w') (h : wpList P ops Q rest (a.put o.dst v') w') : wpList P ops Q (o :: rest) a w :=
  wpList_plain hgd fun _ hK => by
    unfold Oper.wp execOp
    simp only [ho, resolve, invoke, builtin, Sem.run_bind, Sem.run_pure, Result.andThen_ok, List.map_toArray, List.map_cons, List.map_nil, hx, hr]
    exact hK _ _ h
/-- The cache made empty, and the order. -/
theorem DskC.cleared {w w' : World} {F : List Nat} {g n gb c gm : Nat} {O : Option Addr} {oc : Nat} {L : Option Nat} {V : List (Int × Value)} {D : DiskSt} {ord : List Int} (h : DskC w F g n gb c gm O oc L V D ord) (hok : D.ok n) (hm : MapAt w' gm []) (htb : TB gm w w') :
    w'.heap[g]? = some (.cells #[.slice (some ⟨gb, 0, none⟩) (512 * n) c, .map (some gm), .slice O ord.length oc, .pointer (L.map fun l => ⟨l, 0, none⟩)] 102 (0, 0)) ∧
    Dsk (w'.setCell ⟨g, 2, none⟩ (.slice none 0 0)) F g n { D with M := [] } ∧ TS F w (w'.setCell ⟨g, 2, none⟩ (.slice none 0 0)) := by
  have hnd := h.nodup
  unfold dctl at hnd
  have hts : TS [gm] w w' := TS.tb htb (by simp)
  have hset : TS [g] w' (w'.setCell ⟨g, 2, none⟩ (.slice none 0 0)) := TS.tb (TB.set w' 2 _) (by simp)
  have hgm : g ≠ gm := fun e => by simp [e] at hnd
  have hrow : w'.heap[g]? = _ := (hts.block g (Array.getElem?_eq_some_iff.1 h.row).1 (by simpa using hgm)).trans h.row
  have hts2 : TS [g, gm] w (w'.setCell ⟨g, 2, none⟩ (.slice none 0 0)) := ⟨hset.os.trans hts.os, hset.tape.trans hts.tape, hset.output.trans hts.output, Nat.le_trans hts.size hset.size, fun x hx hn => (hset.block x (Nat.lt_of_lt_of_le hx hts.size) (fun e => hn (by simp at e; simp [e]))).trans (hts.block x hx (fun e => hn (by simp at e; simp [e])))⟩
  have hx1 : ∀ x ∈ [gb] ++ L.toList, x ∉ [g, gm] := by
    intro x hx hm
    simp only [List.cons_append, List.nil_append, List.nodup_cons, List.mem_cons, List.mem_append, not_or] at hnd
    obtain ⟨⟨a1, a2, a3, a4⟩, ⟨b1, b2, b3⟩, ⟨c1, c2⟩, d⟩ := hnd
    simp at hx hm
    rcases hx with rfl | hx
    · rcases hm with rfl | rfl
      · exact a1 rfl
      · exact b1 rfl
    · rcases hm with rfl | rfl
      · exact a4 (by simpa using hx)
      · exact c2 (by simpa using hx)
  refine ⟨hrow, ⟨gb, c, gm, none, 0, L, [], ?_, hts2.ownV h.bytes (fun b hb => by cases hb; exact hx1 gb (by simp)), hm.ts hset (by simpa using hgm.symm), .nil, OwnV.nil _ _ _, ?_, ?_, ?_, ⟨hok.len, hok.n1, hok.n2, by simp, hok.f⟩, fun x hx => Nat.lt_of_lt_of_le (h.lt x hx) hts2.size⟩, ?_⟩
  · rw [heap_setCell_same _ _ _ _ _ _ hrow]; rfl
  · have h6 := h.fuse
    unfold FuseAt at *
    simp only
    revert h6
    generalize D.fuse = fz
    intro h6
    cases L with
    | none => cases fz with
      | none => trivial
      | some z => exact h6
    | some l => cases fz with
      | none => exact h6
      | some z =>
        simp only at h6 ⊢
        rw [hts2.block l (Array.getElem?_eq_some_iff.1 h6).1 (hx1 l (by simp))]; exact h6
  · have hsub : ([g, gb, gm] ++ (optBlk none ++ L.toList)).Sublist ([g, gb, gm] ++ (optBlk O ++ L.toList)) := List.Sublist.append_left (List.sublist_append_right _ _) _
    exact hnd.sublist hsub
  · intro x hx
    refine h.mem x ?_
    simp only [optBlk, Option.toList_none, List.map_nil, List.nil_append, List.mem_append] at hx
    simp only [dctl, List.mem_append]
    rcases hx with hx | hx
    · exact .inl hx
    · exact .inr (.inr hx)
  · exact ⟨hts2.os, hts2.tape, hts2.output, hts2.size, fun x hx hn => hts2.block x hx (fun e => hn (by
      simp at e
      rcases e with rfl | rfl
      · exact h.mem _ (by simp [dctl])
      · exact h.mem _ (by simp [dctl])))⟩
/-- How many bytes of the i-th cached sector a crash leaves. -/
def keptLen (keep : List Bool) (torn bytes : Int) (i : Nat) : Nat := if (i : Int) = torn ∧ 0 ≤ bytes ∧ bytes ≤ 512 then bytes.toNat else if keep.getD i false then 512 else 0
/-- The bytes when j cached sectors have been gone through. -/
def crashB (f : Nat → Nat) (M : List (Int × List Byte)) (b : List Byte) : Nat → List Byte
  | 0 => b
  | j + 1 => match M[j]? with
    | some p => splice (crashB f M b j) (512 * p.1.toNat) (p.2.take (f j))
    | none => crashB f M b j
theorem crashB_len {f : Nat → Nat} {M : List (Int × List Byte)} {b : List Byte} {n : Nat} (hb : b.length = 512 * n) (hM : ∀ p ∈ M, 0 ≤ p.1 ∧ p.1 < n ∧ p.2.length = 512) : ∀ j, (crashB f M b j).length = 512 * n
  | 0 => hb
  | j + 1 => by
    rw [crashB]
    cases hj : M[j]? with
    | none => exact crashB_len hb hM j
    | some p =>
      have := hM p (List.mem_of_getElem? hj)
      have ih := crashB_len (f := f) hb hM j
      simp only
      rw [splice_len (by rw [List.length_take, ih]; omega), ih]
/-- 'copy(x, y)' at the operation; as a step of a region that draws. -/
theorem wpList_copy_by {P : Program} {ops : Array Oper} {rest : List Oper} {o : Oper} {a : Act} {w : World} {Q : Exit → Act → World → Prop} (hgd : o.guard = none) (x y : Operand) (t t' : TypeId)
    (ho : o.op = .call { callee := .builtin .copy, args := #[x, y], argTypes := #[t, t'] }) (v u : Value) (hx : a.eval x = v) (hy : a.eval y = u) {v' : Value} {w' : World}
    (hr : ∀ ty, (Builtin.copy_ #[t, t'] ty #[v, u]).run P w = .ok v' w') (h : wpList P ops Q rest (a.put o.dst v') w') : wpList P ops Q (o :: rest) a w :=
  wpList_plain hgd fun _ hK => by
    unfold Oper.wp execOp
    simp only [ho, resolve, invoke, builtin, Sem.run_bind, Sem.run_pure, Result.andThen_ok, List.map_toArray, List.map_cons, List.map_nil, hx, hy, hr]
    exact hK _ _ h
theorem sch_copy {P : Program} {ops : Array Oper} {Q : Exit → Act → World → Prop} {E : World → World → Prop} {i : Nat} {σ : List (Nat × Bool)} {o : Oper} {a : Act} {w w' : World} (hi : ops[i]? = some o) (hw : Region.wanted o (yielded ops a.tmps) = true)
    (x y : Operand) (t t' : TypeId) (ho : o.op = .call { callee := .builtin .copy, args := #[x, y], argTypes := #[t, t'] }) (v u : Value) (hx : a.eval x = v) (hy : a.eval y = u) {v' : Value}
    (hr : ∀ ty, (Builtin.copy_ #[t, t'] ty #[v, u]).run P w = .ok v' w') (hE : E w w') (h : wpSch P ops Q E σ (a.put o.dst v') w') : wpSch P ops Q E ((i, false) :: σ) a w :=
  sch_eff hi hw fun K hK => by
    unfold Oper.wp execOp
    simp only [ho, resolve, invoke, builtin, Sem.run_bind, Sem.run_pure, Result.andThen_ok, List.map_toArray, List.map_cons, List.map_nil, hx, hy, hr]
    exact hK _ _ hE h
theorem cget_at : ∀ {M : List (Int × List Byte)} {j : Nat} {p : Int × List Byte}, (M.map (·.1)).Nodup → M[j]? = some p → cget M p.1 = some p.2
  | [], j, p, _, h => by simp at h
  | (k', v) :: M, 0, p, _, h => by
    simp only [List.getElem?_cons_zero, Option.some.injEq] at h
    subst h
    rw [cget, if_pos rfl]
  | (k', v) :: M, j + 1, p, hn, h => by
    simp only [List.getElem?_cons_succ] at h
    simp only [List.map_cons, List.nodup_cons] at hn
    rw [cget, if_neg (fun e => hn.1 (by rw [e]; exact List.mem_map.2 ⟨p, List.mem_of_getElem? h, rfl⟩))]
    exact cget_at hn.2 h
theorem DskC.nodupM {w : World} {F : List Nat} {g n gb c gm : Nat} {O : Option Addr} {oc : Nat} {L : Option Nat} {V : List (Int × Value)} {D : DiskSt} {ord : List Int} (h : DskC w F g n gb c gm O oc L V D ord) : (D.M.map (·.1)).Nodup := by
  obtain ⟨es, clock, m1, m2, m3, m4, m5⟩ := h.map
  rw [← h.vals.keys]; exact m5
theorem Dsk.mlen {w : World} {F : List Nat} {g n : Nat} {D : DiskSt} (h : Dsk w F g n D) : D.M.length ≤ n := by
  have hok := h.ok
  obtain ⟨gb, c, gm, O, oc, L, V, hp⟩ := h.parts
  have := keys_len n _ hp.nodupM (fun x hx => by
    obtain ⟨p, hp, rfl⟩ := List.mem_map.1 hx
    have := hok.M p hp
    exact ⟨this.1, this.2.1⟩)
  rwa [List.length_map] at this
end Go.Proofs.YtoidlmhebnlnbaaDoor
/- A disk: the walk through Crash. -/
set_option linter.unusedVariables false
set_option linter.unusedSimpArgs false
namespace Go.Proofs.YtoidlmhebnlnbaaDoor
open Go.ChangeShapes Go.WideShapes Go.ChangeAt Go.RowKit Go.MapKept

theorem row3 {W : World} {g : Nat} {a b c : Value} {t : TypeId} {fr : Nat × Nat} (h : W.heap[g]? = some (.cells #[a, b, c] t fr)) :
    W.cell? ⟨g, 0, none⟩ = some a ∧ W.cell? ⟨g, 1, none⟩ = some b ∧ W.cell? ⟨g, 2, none⟩ = some c := by
  refine ⟨?_, ?_, ?_⟩ <;> (rw [cell_of_row _ _ _ _ _ _ h]; rfl)
end Go.Proofs.YtoidlmhebnlnbaaDoor
/- Sectors: the walks through row, slices.Clone of ints, Cached, tallymankit.Ints. -/
set_option linter.unusedVariables false
set_option linter.unusedSimpArgs false
namespace Go.Proofs.YtoidlmhebnlnbaaDoor
open Go.ChangeShapes Go.WideShapes Go.ChangeAt Go.RowKit Go.MapKept
attribute [local go_sem] nb_nonneg nb_lt8

theorem Own.cellset0 {w : World} {base n g : Nat} {c : Nat} {xs : List Byte} (h : Own w base (.slice (some ⟨g, 0, none⟩) n c) xs) {j : Nat} (hj : j < xs.length) :
    w.cell? ⟨g, j, none⟩ = some (vb xs[j]) ∧ w.frozen? ⟨g, j, none⟩ = false ∧ ∀ b : Byte, Own (w.setCell ⟨g, j, none⟩ (vb b)) base (.slice (some ⟨g, 0, none⟩) n c) (xs.set j b) := by
  obtain ⟨_, _, h3, hn, _⟩ := Own.info h
  subst hn
  have hr := h
  unfold Own OwnV at hr
  rw [vbs_length] at hr
  refine ⟨?_, World.ownsRow.frozenAt hr j, fun b => ?_⟩
  · rw [World.ownsRow.cellAt hr j (by omega), vbs_get? xs j hj]
  · have := (World.ownsRow.stored hr j (vb b)).1
    unfold Own OwnV
    rw [vbs_length, List.length_set, show vbs (xs.set j b) = (vbs xs).set j (vb b) from by simp [vbs, List.map_set]]
    exact this
theorem fill_set (v : Byte) (j n : Nat) (h : j < n) : (List.replicate j v ++ List.replicate (n - j) 0#8).set j v = List.replicate (j + 1) v ++ List.replicate (n - (j + 1)) 0#8 := by
  rw [List.set_append_right _ _ (by simp), List.length_replicate, Nat.sub_self, show n - j = (n - (j + 1)) + 1 by omega, List.replicate_succ, List.set_cons_zero, List.replicate_succ' (n := j), List.append_assoc]; rfl
/-- The order, as Cached returns it. -/
theorem Dsk.ordr {w : World} {F : List Nat} {g n : Nat} {D : DiskSt} (h : Dsk w F g n D) : ∃ O oc, w.cell? ⟨g, 2, none⟩ = some (.slice O D.M.length oc) ∧ RdV w O ((D.M.map (·.1)).map (.int .i64)) := by
  obtain ⟨gb, c, gm, O, oc, L, V, hp⟩ := h.parts
  have h2 := (row4 hp.row).2.2.1
  rw [List.length_map] at h2
  exact ⟨O, oc, h2, (OwnV.info hp.order).2.2.1⟩
end Go.Proofs.YtoidlmhebnlnbaaDoor
/- Sectors: the walk through tallymankit.Ints. -/
set_option linter.unusedVariables false
set_option linter.unusedSimpArgs false
namespace Go.Proofs.YtoidlmhebnlnbaaDoor
open Go.ChangeShapes Go.WideShapes Go.ChangeAt Go.RowKit Go.MapKept

theorem RdV.icell {w : World} {A : Option Addr} {zs : List Int} (h : RdV w A (zs.map (.int .i64))) {j : Nat} (hj : j < zs.length) : ∃ b o, A = some ⟨b, o, none⟩ ∧ w.cell? ⟨b, o + j, none⟩ = some (.int .i64 zs[j]) := by
  obtain ⟨b, o, e, -, h2⟩ := RdV.form h (by simp; omega)
  have := h2 j (by simpa using hj)
  rw [List.getElem_map] at this
  exact ⟨b, o, e, this⟩
set_option maxRecDepth 100000 in
set_option maxHeartbeats 1000000 in
theorem kit_Ints (zs ys : List Int) (A B : Option Addr) (n m ca cb : Nat) (w : World) (hn : n = zs.length) (hm : m = ys.length) (hz : zs.length ≤ 1000000000) (hy : ys.length ≤ 1000000000) (hra : RdV w A (zs.map (.int .i64))) (hrb : RdV w B (ys.map (.int .i64))) :
    Calls Tryd.prog 20 #[.slice A n ca, .slice B m cb] w fun e w' => e = .returned (.bool (decide (zs = ys))) ∧ FB w w' := by
  subst hn hm
  have HRA := Lib.hid hra
  have HRB := Lib.hid hrb
  by_cases hl : zs.length = ys.length
  · have HL := Lib.hid hl
    have hli : (zs.length : Int) = (ys.length : Int) := by omega
    have hne : ((zs.length : Int) != (ys.length : Int)) = false := by rw [hli]; simp
    generalize hC : decide (zs = ys) = C
    have HC := Lib.hid hC
    clear hra hrb hl hli hC
    go_enter Tryd.func20, Tryd.ntmps20
    go_wp2
    go_loopw [5] (fun i wr => ∃ j : Nat, j ≤ zs.length ∧ i = .int .i64 j ∧ Hid (zs.take j = ys.take j) ∧ Hid (FB w wr)) (fun i _ => zs.length - (intOf i).toNat)
    case atStart => exact ⟨0, by omega, rfl, by rfl, FB.refl _⟩
    case round =>
      obtain ⟨j, hj, rfl, HT, HF0⟩ := hrel
      by_cases hlt : j < zs.length
      · have hjy : j < ys.length := by have := HL.out; omega
        have hjx : (j : Int) < (zs.length : Int) := by omega
        have hjz : (j : Int) < (ys.length : Int) := by omega
        obtain ⟨a, oa, rfl, -⟩ := RdV.icell HRA.out hlt
        obtain ⟨b, ob, rfl, -⟩ := RdV.icell HRB.out hjy
        have HRA1 := Lib.hid (HF0.out.rdV HRA.out)
        have HRB1 := Lib.hid (HF0.out.rdV HRB.out)
        go_wp2_with fail
        obtain ⟨W0, hW0⟩ : ∃ W0 : World, W0 = wr := ⟨_, rfl⟩
        subst hW0
        refine region_sch (E := FB) ((0, true) :: (1, true) :: (2, true) :: (3, true) :: (4, true) :: (5, true) :: (6, true) :: (7, true) :: (8, true) :: []) (by kernel_rfl) FB.refl fb_trans (fun _ _ d _ _ h => by cases d <;> exact h) (by kernel_rfl) ?_
        intro ops hops0
        have hops := Lib.hid hops0
        clear hops0
        have HF : FB W0 W0.drew := (FB.refl _).drew
        generalize W0.drew = wF at *
        have HRA2 := Lib.hid (FB.rdV HF HRA1.out)
        have HRB2 := Lib.hid (FB.rdV HF HRB1.out)
        repeat (refine sch_take (o := ?_) (v := ?_) (a' := ?_) (at_of hops.out ?_) ?_ (fun W hW => ?_) ?_ ?_; rotate_left 3; (focus (simp only [List.getElem?_toArray, List.getElem?_cons_zero, List.getElem?_cons_succ]; rfl)); (focus (rw [hops.out]; rfl)); (focus (obtain ⟨a1, oa1, e1, u1⟩ := RdV.icell (FB.rdV hW HRA2.out) hlt; cases e1; obtain ⟨b1, ob1, e2, u2⟩ := RdV.icell (FB.rdV hW HRB2.out) hjy; cases e2; go_simp; with_reducible rfl)); (focus (simp only [Act.put, List.setIfInBounds_toArray, List.set_cons_zero, List.set_cons_succ]; rfl)))
        refine sch_done ?_
        have HF3 := Lib.hid (HF0.out.trans HF)
        have htk : zs.take (j + 1) = zs.take j ++ [zs[j]] := by rw [List.take_succ_eq_append_getElem hlt]
        have htk2 : ys.take (j + 1) = ys.take j ++ [ys[j]] := by rw [List.take_succ_eq_append_getElem hjy]
        by_cases he : zs[j] = ys[j]
        · have hne2 : (zs[j] != ys[j]) = false := by simp [he]
          have HT2 := Lib.hid (show zs.take (j + 1) = ys.take (j + 1) by rw [htk, htk2, HT.out, he])
          clear htk htk2 he hops
          go_wp2
          go_roundw
          case rel => exact ⟨j + 1, by omega, by go_num, HT2.out, HF3.out⟩
          case measure => simp [intOf]; omega
        · have hne2 : (zs[j] != ys[j]) = true := by simp [he]
          have HX := Lib.hid (show C = false from by rw [← HC.out]; simp only [decide_eq_false_iff_not]; intro e; subst e; exact he rfl)
          clear htk htk2 he hops
          go_wp2
          go_ret
          exact ⟨by rw [HX.out]; rfl, HF3.out⟩
      · obtain rfl : j = zs.length := by omega
        have HX := Lib.hid (show C = true from by rw [← HC.out]; simp only [decide_eq_true_eq]; have := HT.out; rw [List.take_length, HL.out, List.take_length] at this; exact this)
        have hjz : ¬ ((zs.length : Nat) : Int) < (zs.length : Int) := by omega
        go_wp2
        go_ret
        exact ⟨by rw [HX.out]; rfl, HF0.out⟩
  · have hne : ((zs.length : Int) != (ys.length : Int)) = true := by simp; omega
    rw [show decide (zs = ys) = false from by simp only [decide_eq_false_iff_not]; intro e; exact hl (by rw [e])]
    clear hra hrb hl
    go_enter Tryd.func20, Tryd.ntmps20
    go_wp2
    go_ret
    exact ⟨rfl, FB.refl _⟩
end Go.Proofs.YtoidlmhebnlnbaaDoor
/- Sectors of bytes, plain: a splice changes its own sector alone. -/
set_option linter.unusedVariables false
set_option linter.unusedSimpArgs false
namespace Go.Proofs.YtoidlmhebnlnbaaDoor
open Go.ChangeShapes Go.WideShapes Go.ChangeAt Go.RowKit Go.MapKept

theorem sec_get (b : List Byte) (k i : Nat) : (sec b k)[i]? = if i < 512 then b[512 * k + i]? else none := by
  unfold sec
  rw [List.getElem?_take, List.getElem?_drop]
theorem splice_get (b x : List Byte) (off i : Nat) (h : off + x.length ≤ b.length) : (splice b off x)[i]? = if i < off then b[i]? else if i < off + x.length then x[i - off]? else b[i]? := by
  unfold splice
  rw [List.getElem?_append]
  have hl : (b.take off).length = off := by rw [List.length_take]; omega
  rw [hl]
  by_cases h1 : i < off
  · rw [if_pos h1, if_pos h1, List.getElem?_take, if_pos h1]
  · rw [if_neg h1, if_neg h1, List.getElem?_append]
    by_cases h2 : i < off + x.length
    · rw [if_pos (show i - off < x.length by omega), if_pos h2]
    · rw [if_neg (show ¬ i - off < x.length by omega), if_neg h2, List.getElem?_drop]
      congr 1; omega
theorem sec_splice_other {b x : List Byte} {k k' n : Nat} (hb : b.length = 512 * n) (hk : k < n) (hx : x.length ≤ 512) (hne : k' ≠ k) : sec (splice b (512 * k) x) k' = sec b k' := by
  apply List.ext_getElem?
  intro i
  rw [sec_get, sec_get]
  by_cases hi : i < 512
  · rw [if_pos hi, if_pos hi, splice_get _ _ _ _ (by omega)]
    by_cases h1 : 512 * k' + i < 512 * k
    · rw [if_pos h1]
    · rw [if_neg h1, if_neg (by omega)]
  · rw [if_neg hi, if_neg hi]
theorem sec_splice_same {b x : List Byte} {k n : Nat} (hb : b.length = 512 * n) (hk : k < n) (hx : x.length ≤ 512) : sec (splice b (512 * k) x) k = x ++ (sec b k).drop x.length := by
  apply List.ext_getElem?
  intro i
  rw [sec_get, List.getElem?_append, List.getElem?_drop, sec_get]
  by_cases hi : i < 512
  · rw [if_pos hi, splice_get _ _ _ _ (by omega), if_neg (by omega)]
    by_cases h1 : i < x.length
    · rw [if_pos (by omega), if_pos h1]; congr 1; omega
    · rw [if_neg (by omega), if_neg h1, if_pos (by omega)]; congr 1; omega
  · rw [if_neg hi, if_neg (by omega), if_neg (by omega)]
theorem sec_replicate (n k : Nat) (v : Byte) (hk : k < n) : sec (List.replicate (512 * n) v) k = List.replicate 512 v := by
  apply List.ext_getElem?
  intro i
  rw [sec_get, List.getElem?_replicate, List.getElem?_replicate]
  by_cases hi : i < 512
  · rw [if_pos hi, if_pos hi, if_pos (by omega)]
  · rw [if_neg hi, if_neg hi]
theorem sdWrite_ok {D : DiskSt} {n : Nat} {k : Int} {xs : List Byte} (h0 : 0 ≤ k) (h1 : k < n) (hl : xs.length = 512) (hf : D.fuse = none) : sdWrite D n k xs = (0, ⟨D.b, cput D.M k xs, none⟩) := by
  unfold sdWrite
  rw [if_neg (by omega), hf]
  simp [ffail]
theorem sdRead_ok {D : DiskSt} {n : Nat} {k : Int} (h0 : 0 ≤ k) (h1 : k < n) (hf : D.fuse = none) : sdRead D n k = ((cget D.M k).getD (sec D.b k.toNat), 0, D) := by
  unfold sdRead
  rw [if_neg (by omega), hf]
  cases D
  simp only [ffail] at hf ⊢
  rw [hf]; simp
/-- A disk that lies in what was made since w0. -/
structure DW (w0 w : World) (F : List Nat) (g n : Nat) (D : DiskSt) : Prop where
  dsk : Dsk w F g n D
  fb : FB w0 w
  own : ∀ x ∈ F, w0.heap.size ≤ x
theorem DW.res {w0 w w' : World} {F : List Nat} {g n : Nat} {D D' : DiskSt} (h : DW w0 w F g n D) (k : DskRes w F g n D' w') : ∃ F', DW w0 w' F' g n D' ∧ TS F w w' ∧ ∀ x ∈ F', x ∈ F ∨ w.heap.size ≤ x := by
  obtain ⟨F', h1, h2, h3⟩ := k
  exact ⟨F', ⟨h2, h.fb.ts h3 h.own, fun x hx => (h1 x hx).elim (h.own x) (fun h' => Nat.le_trans h.fb.le h')⟩, h3, h1⟩
theorem DW.ts {w0 w w' : World} {F : List Nat} {g n : Nat} {D D' : DiskSt} (h : DW w0 w F g n D) (k : Dsk w' F g n D') (t : TS F w w') : DW w0 w' F g n D' := ⟨k, h.fb.ts t h.own, h.own⟩
theorem DW.fbn {w0 w w' : World} {F : List Nat} {g n : Nat} {D : DiskSt} (h : DW w0 w F g n D) (k : FB w w') : DW w0 w' F g n D := ⟨h.dsk.fb k, h.fb.trans k, h.own⟩
theorem DW.notin {w0 w : World} {F : List Nat} {g n : Nat} {D : DiskSt} (h : DW w0 w F g n D) {x : Nat} (hx : w.heap.size ≤ x) : x ∉ F := fun hm => by have := h.dsk.lt x hm; omega
end Go.Proofs.YtoidlmhebnlnbaaDoor
/- Sectors of bytes, plain: what a crash, a flush leave. -/
set_option linter.unusedVariables false
set_option linter.unusedSimpArgs false
namespace Go.Proofs.YtoidlmhebnlnbaaDoor
open Go.ChangeShapes Go.WideShapes Go.ChangeAt Go.RowKit Go.MapKept

theorem sec_ext {b b' : List Byte} {n : Nat} (h : b.length = 512 * n) (h' : b'.length = 512 * n) (hs : ∀ k, k < n → sec b k = sec b' k) : b = b' := by
  apply List.ext_getElem?
  intro i
  by_cases hi : i < 512 * n
  · have hk : i / 512 < n := by omega
    have := congrArg (·[i % 512]?) (hs (i / 512) hk)
    simp only [sec_get] at this
    rw [if_pos (by omega), if_pos (by omega), show 512 * (i / 512) + i % 512 = i by omega] at this
    exact this
  · rw [List.getElem?_eq_none (by omega), List.getElem?_eq_none (by omega)]
theorem cget_none_at {M : List (Int × List Byte)} {k : Int} (h : cget M k = none) : ∀ (i : Nat) (p : Int × List Byte), M[i]? = some p → p.1 ≠ k := by
  induction M with
  | nil => intro i p hp; simp at hp
  | cons q M ih =>
    obtain ⟨qk, qv⟩ := q
    rw [cget] at h
    by_cases h0 : qk = k
    · rw [if_pos h0] at h; cases h
    · rw [if_neg h0] at h
      intro i p hp
      cases i with
      | zero => simp only [List.getElem?_cons_zero, Option.some.injEq] at hp; subst hp; exact h0
      | succ i => simp only [List.getElem?_cons_succ] at hp; exact ih h i p hp
theorem cget_some_at {M : List (Int × List Byte)} {k : Int} {x : List Byte} (h : cget M k = some x) : ∃ i : Nat, i < M.length ∧ M[i]? = some (k, x) := by
  induction M with
  | nil => cases h
  | cons q M ih =>
    obtain ⟨qk, qv⟩ := q
    rw [cget] at h
    by_cases h0 : qk = k
    · rw [if_pos h0] at h
      simp only [Option.some.injEq] at h
      subst h h0
      exact ⟨0, by simp, rfl⟩
    · rw [if_neg h0] at h
      obtain ⟨i, h1, h2⟩ := ih h
      exact ⟨i + 1, by simpa using h1, by simpa using h2⟩
theorem sec_crashB {f : Nat → Nat} {M : List (Int × List Byte)} {b : List Byte} {n k : Nat} (hb : b.length = 512 * n) (hM : ∀ p ∈ M, 0 ≤ p.1 ∧ p.1 < n ∧ p.2.length = 512) (hn : (M.map (·.1)).Nodup) (hf : ∀ i, f i ≤ 512) : ∀ j,
    (∀ (i : Nat) x, i < j → M[i]? = some ((k : Int), x) → sec (crashB f M b j) k = x.take (f i) ++ (sec b k).drop (f i)) ∧ ((∀ (i : Nat) (p : Int × List Byte), i < j → M[i]? = some p → p.1 ≠ k) → sec (crashB f M b j) k = sec b k)
  | 0 => ⟨fun i x hi => absurd hi (by omega), fun _ => rfl⟩
  | j + 1 => by
    have ih := sec_crashB (k := k) hb hM hn hf j
    have hlen := crashB_len (f := f) hb hM j
    have huniq : ∀ (i i' : Nat) (p q : Int × List Byte), M[i]? = some p → M[i']? = some q → p.1 = q.1 → i = i' := fun i i' p q h1 h2 h3 => by
      have g1 : (M.map (·.1))[i]? = some p.1 := by rw [List.getElem?_map, h1]; rfl
      have g2 : (M.map (·.1))[i']? = some p.1 := by rw [List.getElem?_map, h2, h3]; rfl
      have hi := (List.getElem?_eq_some_iff.1 g1).1
      have hi' := (List.getElem?_eq_some_iff.1 g2).1
      rw [List.getElem?_eq_getElem hi] at g1
      rw [List.getElem?_eq_getElem hi'] at g2
      exact (List.getElem_inj hn).1 (by simp only [Option.some.injEq] at g1 g2; rw [g1, g2])
    cases hj : M[j]? with
    | none =>
      have hc : crashB f M b (j + 1) = crashB f M b j := by rw [crashB, hj]
      rw [hc]
      refine ⟨fun i x hi hx => ?_, fun h => ih.2 (fun i p hi => h i p (by omega))⟩
      have : i ≠ j := fun e => by subst e; rw [hj] at hx; cases hx
      exact ih.1 i x (by omega) hx
    | some p =>
      have hp := hM p (List.mem_of_getElem? hj)
      have hc : crashB f M b (j + 1) = splice (crashB f M b j) (512 * p.1.toNat) (p.2.take (f j)) := by rw [crashB, hj]
      rw [hc]
      by_cases hk : p.1 = (k : Int)
      · have hkk : p.1.toNat = k := by omega
        have hno : ∀ (i : Nat) (q : Int × List Byte), i < j → M[i]? = some q → q.1 ≠ k := fun i q hi hq e => by
          have := huniq i j q p hq hj (by rw [e, hk])
          omega
        have hs := sec_splice_same (k := k) (x := p.2.take (f j)) hlen (by omega) (by rw [List.length_take]; omega)
        rw [ih.2 hno, show (p.2.take (f j)).length = f j from by rw [List.length_take, hp.2.2]; have := hf j; omega] at hs
        rw [hkk]
        refine ⟨fun i x hi hx => ?_, fun h => absurd hk (h j p (by omega) hj)⟩
        have hij := huniq i j _ p hx hj hk.symm
        subst hij
        rw [hj] at hx
        simp only [Option.some.injEq] at hx
        rw [hs, hx]
      · have hkk : k ≠ p.1.toNat := by omega
        rw [sec_splice_other hlen (by omega) (by rw [List.length_take]; omega) hkk]
        refine ⟨fun i x hi hx => ?_, fun h => ih.2 (fun i q hi => h i q (by omega))⟩
        have : i ≠ j := fun e => by
          subst e
          rw [hj] at hx
          simp only [Option.some.injEq] at hx
          rw [hx] at hk
          exact hk rfl
        exact ih.1 i x (by omega) hx
/-- The bytes behind a flush. -/
def flushB (M : List (Int × List Byte)) (b : List Byte) : List Byte := crashB (fun _ => 512) M b M.length
theorem flushB_len {M : List (Int × List Byte)} {b : List Byte} {n : Nat} (hb : b.length = 512 * n) (hM : ∀ p ∈ M, 0 ≤ p.1 ∧ p.1 < n ∧ p.2.length = 512) : (flushB M b).length = 512 * n := crashB_len hb hM _
theorem sec_flushB {M : List (Int × List Byte)} {b : List Byte} {n k : Nat} (hb : b.length = 512 * n) (hk : k < n) (hM : ∀ p ∈ M, 0 ≤ p.1 ∧ p.1 < n ∧ p.2.length = 512) (hn : (M.map (·.1)).Nodup) : sec (flushB M b) k = (cget M k).getD (sec b k) := by
  have h := sec_crashB (f := fun _ => 512) (k := k) hb hM hn (fun _ => Nat.le_refl _) M.length
  unfold flushB
  cases hc : cget M (k : Int) with
  | none => exact h.2 (fun i p _ hp => cget_none_at hc i p hp)
  | some x =>
    obtain ⟨i, hi, hx⟩ := cget_some_at hc
    have hl := (hM _ (List.mem_of_getElem? hx)).2.2
    rw [h.1 i x hi hx]
    simp only at hl
    rw [List.take_of_length_le (by omega), List.drop_of_length_le (by rw [sec_len hb hk]; omega), List.append_nil]; rfl
theorem flushB_of {M : List (Int × List Byte)} {b b' : List Byte} {n : Nat} (hb : b.length = 512 * n) (hb' : b'.length = 512 * n) (hM : ∀ p ∈ M, 0 ≤ p.1 ∧ p.1 < n ∧ p.2.length = 512) (hn : (M.map (·.1)).Nodup) (h : ∀ k, k < n → sec b' k = (cget M k).getD (sec b k)) : b' = flushB M b :=
  sec_ext hb' (flushB_len hb hM) (fun k hk => by rw [h k hk, sec_flushB hb hk hM hn])
end Go.Proofs.YtoidlmhebnlnbaaDoor
