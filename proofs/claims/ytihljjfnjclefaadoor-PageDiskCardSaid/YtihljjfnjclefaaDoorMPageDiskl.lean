/- Walks and laws that the claim's last text stands on, several texts in one file: Rff, Rfg. Under the hypotheses that each theorem states. -/
import Derived.Test.YtihljjfnjclefaaDoorMPageDiska
import Derived.Test.YtihljjfnjclefaaDoorMPageDiskb
import Derived.Test.YtihljjfnjclefaaDoorMPageDiskc
import Derived.Test.YtihljjfnjclefaaDoorMPageDiskd
import Derived.Test.YtihljjfnjclefaaDoorMPageDiske
import Derived.Test.YtihljjfnjclefaaDoorMPageDiskf
import Derived.Test.YtihljjfnjclefaaDoorMPageDiskg
import Derived.Test.YtihljjfnjclefaaDoorMPageDiskh
import Derived.Test.YtihljjfnjclefaaDoorMPageDiski
import Derived.Test.YtihljjfnjclefaaDoorMPageDiskj
import Derived.Test.YtihljjfnjclefaaDoorMPageDiskk
/- The reference's disk: the walk through Read. -/
set_option linter.unusedVariables false
set_option linter.unusedSimpArgs false
namespace Go.Proofs.YtihljjfnjclefaaDoor
open Go.ChangeShapes Go.WideShapes Go.ChangeAt Go.RowKit Go.MapKept
set_option maxRecDepth 100000

section
variable {w w' : World} {F F' ctl : List Nat} {V : List (Int × Value)} {M : List (Int × List Byte)}
theorem Vals.len (h : Vals w F ctl V M) : V.length = M.length := by
  have := congrArg List.length h.keys
  simpa using this
theorem Vals.at (h : Vals w F ctl V M) : ∀ {i : Nat} {k : Int} {x : List Byte}, M[i]? = some (k, x) →
    ∃ A c, V[i]? = some (k, .slice A x.length c) ∧ Rd w A x ∧ x.length ≤ c ∧ c ≤ maxLen ∧ ∀ ad, A = some ad → ad.block ∈ F ∧ ad.block ∉ ctl := by
  induction h with
  | nil => intro i k x hi; simp at hi
  | @cons k' A c x' V M hr h1 h2 hb ht ih =>
    intro i k x hi
    cases i with
    | zero =>
      simp only [List.getElem?_cons_zero, Option.some.injEq, Prod.mk.injEq] at hi
      obtain ⟨rfl, rfl⟩ := hi
      exact ⟨A, c, rfl, hr, h1, h2, hb⟩
    | succ i => exact ih (by simpa using hi)
theorem Vals.setAt (h : Vals w F ctl V M) (k : Int) {A : Option Addr} {c : Nat} {y : List Byte} (hr : Rd w A y) (h1 : y.length ≤ c) (h2 : c ≤ maxLen) (hb : ∀ ad, A = some ad → ad.block ∈ F ∧ ad.block ∉ ctl) :
    ∀ i, Vals w F ctl (V.set i (k, .slice A y.length c)) (M.set i (k, y)) := by
  induction h with
  | nil => intro i; exact .nil
  | @cons k' A' c' x' V M hr' h1' h2' hb' ht ih =>
    intro i
    cases i with
    | zero => exact .cons hr h1 h2 hb ht
    | succ i => exact .cons hr' h1' h2' hb' (ih i)
theorem Vals.snoc (h : Vals w F ctl V M) (k : Int) {A : Option Addr} {c : Nat} {y : List Byte} (hr : Rd w A y) (h1 : y.length ≤ c) (h2 : c ≤ maxLen) (hb : ∀ ad, A = some ad → ad.block ∈ F ∧ ad.block ∉ ctl) :
    Vals w F ctl (V ++ [(k, .slice A y.length c)]) (M ++ [(k, y)]) := by
  induction h with
  | nil => exact .cons hr h1 h2 hb .nil
  | cons hr' h1' h2' hb' ht ih => exact .cons hr' h1' h2' hb' ih
end
section
variable {w w' : World} {F F' : List Nat} {g n gb c : Nat} {NA : Option Addr} {nc : Nat} {CA : Option Addr} {cc : Nat} {V : List (Int × Value)} {D : DiskSt}
/-- What is cached at a place. -/
theorem RD.at (h : RD w F g n gb c NA nc CA cc V D) {i : Nat} {k : Int} {x : List Byte} (hi : D.M[i]? = some (k, x)) :
    ∃ (cb : Nat) (A : Option Addr) (ca : Nat), CA = some ⟨cb, 0, none⟩ ∧ w.cell? ⟨cb, i, none⟩ = some (.slice A x.length ca) ∧ w.frozen? ⟨cb, i, none⟩ = false ∧ Rd w A x ∧ x.length ≤ ca ∧ ca ≤ maxLen ∧ (∀ ad, A = some ad → ad.block ∈ F ∧ ad.block ∉ rctl g gb NA CA) ∧
      ∀ u, OwnV 23 (w.setCell ⟨cb, i, none⟩ u) 0 (.slice CA D.M.length cc) ((V.map (·.2)).set i u) := by
  obtain ⟨A, ca, hv, h1, h2, h3, h4⟩ := h.vals.at hi
  have hlt : i < V.length := (List.getElem?_eq_some_iff.1 hv).1
  have hr := h.rows
  have hln : D.M.length = (V.map (·.2)).length := by rw [List.length_map, h.vals.len]
  rw [hln] at hr
  unfold OwnV at hr
  have hr' := hr
  rcases hr.2 with ⟨e, h0⟩ | ⟨cb, cap, cur, e, -, -, -⟩
  · rw [List.length_map] at h0; omega
  · simp only [Value.slice.injEq] at e
    obtain ⟨rfl, -, -⟩ := e
    refine ⟨cb, A, ca, rfl, ?_, World.ownsRow.frozenAt hr' i, h1, h2, h3, h4, fun u => ?_⟩
    · rw [World.ownsRow.cellAt hr' i (by rw [List.length_map]; omega), List.getElem?_map, hv]; rfl
    · have := (World.ownsRow.stored hr' i u).1
      rw [hln]
      unfold OwnV
      rw [List.length_set]
      exact this
set_option maxHeartbeats 1000000 in
theorem ref_Read (h : RDsk w F g n D) (k : Int) :
    Calls Tryd.prog 58 #[.pointer (some ⟨g, 0, none⟩), .int .i64 k] w fun e w' => ∃ A c, e = .returned (.tuple #[.slice A (sdRead D n k).1.length c, .int .i64 (sdRead D n k).2.1]) ∧ Rd w' A (sdRead D n k).1 ∧ (∀ ad, A = some ad → w.heap.size ≤ ad.block) ∧ RDsk w' F g n (sdRead D n k).2.2 ∧ TS F w w' := by
  have H := Lib.hid h
  unfold sdRead
  by_cases hneg : k < 0
  · rw [if_pos (.inl hneg)]
    clear h
    go_enter Tryd.func58, Tryd.ntmps58
    go_wp2
    go_ret2
    exact ⟨none, 0, rfl, Rd.nil _ _, fun ad ha => (by cases ha), H.out, TS.refl _ _⟩
  · by_cases hbig : (n : Int) ≤ k
    · rw [if_pos (.inr hbig)]
      clear h
      go_enter Tryd.func58, Tryd.ntmps58
      go_wp2_with fail
      refine (ref_Sectors H.out).mono ?_
      rintro e w1 ⟨rfl, rfl⟩
      go_wp2
      go_ret2
      exact ⟨none, 0, rfl, Rd.nil _ _, fun ad ha => (by cases ha), H.out, TS.refl _ _⟩
    · rw [if_neg (by omega)]
      have HFA := Lib.hid (ref_fails h)
      have hk0 : 0 ≤ k := by omega
      have hkn : k < (n : Int) := by omega
      have hn2 := h.ok.n2
      cases hff : (ffail D.fuse).1 with
      | true =>
        rw [if_pos rfl]
        rw [hff] at HFA
        clear h hff
        go_enter Tryd.func58, Tryd.ntmps58
        go_wp2_with fail
        refine (ref_Sectors H.out).mono ?_
        rintro e w1 ⟨rfl, rfl⟩
        go_wp2_with fail
        refine HFA.out.mono ?_
        rintro e w1 ⟨rfl, hd, ht⟩
        have HD1 := Lib.hid hd
        have HT1 := Lib.hid ht
        clear hd ht
        go_wp2
        go_ret2
        exact ⟨none, 0, rfl, Rd.nil _ _, fun ad ha => (by cases ha), HD1.out, HT1.out⟩
      | false =>
        rw [if_neg (by simp)]
        rw [hff] at HFA
        generalize (ffail D.fuse).2 = fz at *
        have hXL : ((cget D.M k).getD (sec D.b k.toNat)).length = 512 := by
          cases hc : cget D.M k with
          | none => exact sec_len h.ok.len (by omega)
          | some y =>
            obtain ⟨j, -, hj⟩ := cget_some_at hc
            exact (h.ok.M _ (List.mem_of_getElem? hj)).2.2
        generalize hX : (cget D.M k).getD (sec D.b k.toNat) = xs at *
        have HX := Lib.hid hX
        have HXL := Lib.hid hXL
        rw [hXL]
        clear h hff hX hXL
        go_enter Tryd.func58, Tryd.ntmps58
        go_wp2_with fail
        refine (ref_Sectors H.out).mono ?_
        rintro e w1 ⟨rfl, rfl⟩
        go_wp2_with fail
        refine HFA.out.mono ?_
        rintro e w1 ⟨rfl, hd, ht⟩
        have HD1 := Lib.hid hd
        have HT1 := Lib.hid ht
        clear hd ht
        go_wp2_with fail
        refine (ref_find HD1.out k).mono ?_
        rintro e w2 ⟨rfl, rfl⟩
        obtain ⟨gb, c, NA, nc, CA, cc, V, hD⟩ := HD1.out
        have hDa := hD.fb ((FB.refl w1).alloc (.cells #[] 5))
        have HML := Lib.hid hD.mlen
        obtain ⟨q0, q1, q2, q3⟩ := row4 hDa.row
        simp only at q1 q2
        rcases cfi_spec D.M k with ⟨h1, h2, -, -⟩ | ⟨i, x, h1, h2, h3, h4, -, -⟩
        · rw [show cfiZ D.M k = -1 from by unfold cfiZ; rw [h1]]
          have hxs : sec D.b k.toNat = xs := by have := HX.out; rw [h2] at this; exact this
          clear h1 h2
          obtain ⟨kn, rfl⟩ : ∃ kn : Nat, k = (kn : Int) := ⟨k.toNat, by omega⟩
          have hkn2 : kn < n := by omega
          have hL := hD.ok.len
          simp only at hL
          have hi := (Own.info hDa.bytes)
          obtain ⟨A', hcut, hcr, hA⟩ := cut_at (some ⟨gb, 0, none⟩) c D.b (512 * kn) 512 (by omega) (by rw [hL]; have := hi.1; simp only [hL] at this; omega)
          rw [hL] at hcut
          have HRS := Lib.hid (show Rd (w1.alloc (.cells #[] 5)) A' xs from by rw [← hxs]; exact hcr _ hi.2.2.1)
          have hw1 : IntKind.i64.wrap ((kn : Int) * 512) = (kn : Int) * 512 := by rw [IntKind.wrap_i64]; omega
          have hw2 : IntKind.i64.wrap ((kn : Int) + 1) = (kn : Int) + 1 := by rw [IntKind.wrap_i64]; omega
          have hw3 : IntKind.i64.wrap (((kn : Int) + 1) * 512) = ((kn : Int) + 1) * 512 := by rw [IntKind.wrap_i64]; omega
          have hcut2 : ∀ W, (Instr.slice 23 (.slice (some ⟨gb, 0, none⟩) (512 * n) c) (some (.int .i64 ((kn : Int) * 512))) (some (.int .i64 (((kn : Int) + 1) * 512))) none).run Tryd.prog W = .ok (.slice A' 512 (c - 512 * kn)) W := fun W => by
            have := hcut W
            rw [show ((512 * kn : Nat) : Int) = (kn : Int) * 512 by omega, show (kn : Int) * 512 + ((512 : Nat) : Int) = ((kn : Int) + 1) * 512 by omega] at this
            exact this
          clear hD hDa hL hi hcut hcr hA hxs
          go_wp2_with (at_builtin; refine wpList_append_bytes rfl _ _ rfl w1.heap.size _ [] (OwnV.lit _ w1 [] (by simp)) rfl _ _ xs (by rw [HXL.out]; rfl) HRS.out (by have := HXL.out; simp; omega) (by simp) ?_; intro v' w3 ho hg _; have HO := Lib.hid ho; have HG := Lib.hid hg; clear ho hg)
          have ho := HO.out
          rw [List.nil_append] at ho
          obtain ⟨A3, c3, rfl, -⟩ := ho.form
          rw [HXL.out] at ho ⊢
          have HO3 := Lib.hid (Own.info ho)
          have HF3 := Lib.hid (show FB w1 w3 from ((FB.refl w1).alloc _).grown HG.out (by simp [Value.ownBlock]))
          clear ho HO HG
          go_ret2
          exact ⟨A3, c3, rfl, HO3.out.2.2.1, fun ad ha => Nat.le_trans HT1.out.size (HO3.out.2.2.2.2 ad ha).1, HD1.out.fb HF3.out, HT1.out.then (TS.of HF3.out)⟩
        · rw [show cfiZ D.M k = (i : Int) from by unfold cfiZ; rw [h1]]
          obtain rfl : x = xs := by have := HX.out; rw [h4] at this; exact this
          obtain ⟨cb, A, ca, rfl, r1, -, r2, r3, r4, -, -⟩ := hDa.at h3
          have hml : (D.M.length : Int) ≤ 32768 := by have := HML.out; simp only at this; omega
          have hil : (i : Int) < (D.M.length : Int) := by omega
          have HRX := Lib.hid r2
          have hi0 : ¬ (i : Int) < 0 := by omega
          have hi1 : (0 : Int) ≤ (i : Int) := by omega
          rw [HXL.out] at r1
          clear h1 h2 h3 h4 r2 r3 r4 hD hDa
          go_wp2_with (at_builtin; refine wpList_append_bytes rfl _ _ rfl w1.heap.size _ [] (OwnV.lit _ w1 [] (by simp)) rfl _ _ x (by rw [HXL.out]; rfl) HRX.out (by have := HXL.out; simp; omega) (by simp) ?_; intro v' w3 ho hg _; have HO := Lib.hid ho; have HG := Lib.hid hg; clear ho hg)
          have ho := HO.out
          rw [List.nil_append] at ho
          obtain ⟨A3, c3, rfl, -⟩ := ho.form
          rw [HXL.out] at ho ⊢
          have HO3 := Lib.hid (Own.info ho)
          have HF3 := Lib.hid (show FB w1 w3 from ((FB.refl w1).alloc _).grown HG.out (by simp [Value.ownBlock]))
          clear ho HO HG
          go_ret2
          exact ⟨A3, c3, rfl, HO3.out.2.2.1, fun ad ha => Nat.le_trans HT1.out.size (HO3.out.2.2.2.2 ad ha).1, HD1.out.fb HF3.out, HT1.out.then (TS.of HF3.out)⟩
end
end Go.Proofs.YtihljjfnjclefaaDoor
/- The reference's disk: the walk through Write. -/
set_option linter.unusedVariables false
set_option linter.unusedSimpArgs false
namespace Go.Proofs.YtihljjfnjclefaaDoor
open Go.ChangeShapes Go.WideShapes Go.ChangeAt Go.RowKit Go.MapKept
set_option maxRecDepth 100000

theorem oneCell_of {V : List (Int × Value)} {w : World} {F ctl : List Nat} {M : List (Int × List Byte)} (h : Vals w F ctl V M) : ∀ u ∈ V.map (·.2), u.oneCell' = true := by
  induction h with
  | nil => intro u hu; cases hu
  | cons hr h1 h2 hb ht ih =>
    intro u hu
    simp only [List.map_cons, List.mem_cons] at hu
    rcases hu with rfl | hu
    · rfl
    · exact ih u hu
theorem ts_grown {w w' : World} {A : Option Addr} {n c : Nat} (h : w.grownBy w' (Value.slice A n c).ownBlock) : TS (optBlk A) w w' :=
  ⟨h.os, h.tape, h.output, h.size, fun x hx hn => h.block x hx (fun e => hn (own_out e.symm))⟩
section
variable {w w' : World} {F F' : List Nat} {g n gb c : Nat} {NA : Option Addr} {nc : Nat} {CA : Option Addr} {cc : Nat} {V : List (Int × Value)} {D : DiskSt}
theorem RD.disj (h : RD w F g n gb c NA nc CA cc V D) : (∀ x ∈ optBlk NA, x ∉ optBlk CA) ∧ g ∉ optBlk NA ∧ g ∉ optBlk CA ∧ gb ∉ optBlk NA ∧ gb ∉ optBlk CA ∧ g ≠ gb := by
  have hnd := h.nodup
  simp only [rctl, List.cons_append, List.nil_append, List.nodup_cons, List.mem_cons, List.mem_append, not_or, List.nodup_append] at hnd
  obtain ⟨⟨a1, a2, a3⟩, ⟨b1, b2⟩, d1, d2, d3⟩ := hnd
  exact ⟨fun x hx hy => d3 x hx x hy rfl, a2, a3, b1, b2, a1⟩
/-- The cached bytes of a sector replaced. -/
theorem RD.replaced (h : RD w F g n gb c NA nc CA cc V D) {i : Nat} {k : Int} {x y : List Byte} (hi : D.M[i]? = some (k, x)) (hy : y.length = 512) {A : Option Addr} {ca : Nat} (hr : Rd w A y) (h2 : 512 ≤ ca) (h3 : ca ≤ maxLen) (hA : ∀ ad, A = some ad → ad.block < w.heap.size ∧ ad.block ∉ F)
    {cb : Nat} (hcb : CA = some ⟨cb, 0, none⟩) : ∃ F', (∀ x ∈ F', x ∈ F ∨ x ∈ optBlk A) ∧ RD (w.setCell ⟨cb, i, none⟩ (.slice A 512 ca)) F' g n gb c NA nc CA cc (V.set i (k, .slice A 512 ca)) { D with M := D.M.set i (k, y) } ∧ TS F w (w.setCell ⟨cb, i, none⟩ (.slice A 512 ca)) := by
  obtain ⟨cb', A0, ca0, hc, -, -, -, -, -, -, hrow⟩ := h.at hi
  rw [hcb] at hc
  cases hc
  have hcF : cb ∈ F := h.mem cb (by rw [hcb]; simp [rctl, optBlk])
  obtain ⟨d1, d2, d3, d4, d5, d6⟩ := h.disj
  have hcC : cb ∈ optBlk CA := by rw [hcb]; simp [optBlk]
  have htb : TB cb w (w.setCell ⟨cb, i, none⟩ (.slice A 512 ca)) := TB.set w i _
  have hts : TS [cb] w (w.setCell ⟨cb, i, none⟩ (.slice A 512 ca)) := TS.tb htb (by simp)
  have hAC : ∀ ad, A = some ad → ad.block ∉ rctl g gb NA CA := fun ad ha hm => (hA ad ha).2 (h.mem _ hm)
  have hsel := h.ok.M _ (List.mem_of_getElem? hi)
  refine ⟨optBlk A ++ F, fun y hy => by simp only [List.mem_append] at hy; exact hy.symm, ⟨?_, ?_, ?_, ?_, ?_, h.nodup, fun x hx => by simp [h.mem x hx], ?_, ⟨h.ok.len, h.ok.n1, h.ok.n2, fun p hp => ?_, h.ok.f⟩, ?_⟩, TS.tb htb hcF⟩
  · rw [hts.block g (Array.getElem?_eq_some_iff.1 h.row).1 (by simp only [List.mem_singleton]; rintro rfl; exact d3 hcC)]
    simp only [List.length_set]
    exact h.row
  · exact hts.ownV h.bytes (fun b hb => by cases hb; simp only [List.mem_singleton]; rintro rfl; exact d5 hcC)
  · have := hts.ownV h.keys (fun b hb => by simp only [List.mem_singleton]; rintro rfl; exact d1 _ (own_out hb) hcC)
    simp only [List.length_set]
    rw [show (D.M.set i (k, y)).map (fun p => Value.int .i64 p.1) = D.M.map (fun p => Value.int .i64 p.1) from by
      apply List.ext_getElem?
      intro j
      simp only [List.getElem?_map, List.getElem?_set]
      by_cases e : i = j
      · subst e
        rw [if_pos rfl, if_pos (List.getElem?_eq_some_iff.1 hi).1, hi]; rfl
      · rw [if_neg e]]
    exact this
  · have := hrow (.slice A 512 ca)
    simp only [List.length_set, List.map_set]
    exact this
  · have hv := h.vals.move (F' := optBlk A ++ F) (ctl' := rctl g gb NA CA) (fun A' x' hr' hb => hts.rd hr' (fun ad ha hm => (hb ad ha).2 (by simp only [List.mem_singleton] at hm; rw [hm]; rw [hcb]; simp [rctl, optBlk]))) (fun b hb hb' => ⟨by simp [hb], hb'⟩)
    have := hv.setAt k (A := A) (c := ca) (y := y) (hts.rd hr (fun ad ha hm => (hA ad ha).2 (by simp only [List.mem_singleton] at hm; rw [hm]; exact hcF))) (by omega) h3 (fun ad ha => ⟨by simp [optBlk, ha], hAC ad ha⟩) i
    rw [hy] at this
    exact this
  · intro x hx
    simp only [List.mem_append] at hx
    rcases hx with hx | hx
    · cases A with
      | none => cases hx
      | some ad =>
        simp only [optBlk, Option.toList_some, List.map_cons, List.map_nil, List.mem_singleton] at hx
        subst hx
        exact Nat.lt_of_lt_of_le (hA ad rfl).1 hts.size
    · exact Nat.lt_of_lt_of_le (h.lt x hx) hts.size
  · rcases List.mem_or_eq_of_mem_set hp with hp | rfl
    · exact h.ok.M p hp
    · exact ⟨hsel.1, hsel.2.1, hy⟩
  · have : (D.M.set i (k, y)).map (·.1) = D.M.map (·.1) := by
      apply List.ext_getElem?
      intro j
      simp only [List.getElem?_map, List.getElem?_set]
      by_cases e : i = j
      · subst e
        rw [if_pos rfl, if_pos (List.getElem?_eq_some_iff.1 hi).1, hi]; rfl
      · rw [if_neg e]
    rw [this]; exact h.nd
/-- A sector more in the cache: both lists made longer, and laid into the disk. -/
theorem RD.grow {wA wB wC wD : World} {NA' CA' A : Option Addr} {nc' cc' ca : Nat} {k : Int} {y : List Byte} (h : RD w F g n gb c NA nc CA cc V D) (f1 : FB w wA)
    (hoN : OwnV 3 wB 0 (.slice NA' (D.M.length + 1) nc') ((D.M.map fun p => .int .i64 p.1) ++ [.int .i64 k])) (hgN : wA.grownBy wB (Value.slice NA D.M.length nc).ownBlock) (hlN : (Value.slice NA' (D.M.length + 1) nc').ownBlock = (Value.slice NA D.M.length nc).ownBlock ∨ (Value.slice NA' (D.M.length + 1) nc').ownBlock = some wA.heap.size)
    (f2 : FB wB wC) (hoC : OwnV 23 wD 0 (.slice CA' (D.M.length + 1) cc') (V.map (·.2) ++ [.slice A 512 ca])) (hgC : wC.grownBy wD (Value.slice CA D.M.length cc).ownBlock) (hlC : (Value.slice CA' (D.M.length + 1) cc').ownBlock = (Value.slice CA D.M.length cc).ownBlock ∨ (Value.slice CA' (D.M.length + 1) cc').ownBlock = some wC.heap.size)
    (hk0 : 0 ≤ k) (hkn : k < n) (hno : cget D.M k = none) (hy : y.length = 512) (hr : Rd w A y) (h2 : 512 ≤ ca) (h3 : ca ≤ maxLen) (hA : ∀ ad, A = some ad → ad.block < w.heap.size ∧ ad.block ∉ F) :
    ∃ F', (∀ x ∈ F', x ∈ F ∨ x ∈ optBlk A ∨ w.heap.size ≤ x) ∧ RD ((wD.setCell ⟨g, 1, none⟩ (.slice NA' (D.M.length + 1) nc')).setCell ⟨g, 2, none⟩ (.slice CA' (D.M.length + 1) cc')) F' g n gb c NA' nc' CA' cc' (V ++ [(k, .slice A 512 ca)]) { D with M := D.M ++ [(k, y)] } ∧ TS F w ((wD.setCell ⟨g, 1, none⟩ (.slice NA' (D.M.length + 1) nc')).setCell ⟨g, 2, none⟩ (.slice CA' (D.M.length + 1) cc')) := by
  obtain ⟨d1, d2, d3, d4, d5, d6⟩ := h.disj
  have tN := ts_grown hgN
  have tC := ts_grown hgC
  have hsA := f1.le
  have hsB := tN.size
  have hsC := f2.le
  have hsD := tC.size
  have tAll : TS (optBlk NA ++ optBlk CA) w wD := by
    have t1 : TS (optBlk NA ++ optBlk CA) w wA := TS.of f1
    have t2 : TS (optBlk NA ++ optBlk CA) w wB := t1.trans tN (fun x hx => .inl (by simp [hx]))
    have t3 : TS (optBlk NA ++ optBlk CA) w wC := t2.then (TS.of f2)
    exact t3.trans tC (fun x hx => .inl (by simp [hx]))
  have ltF : ∀ x ∈ rctl g gb NA CA, x < w.heap.size := fun x hx => h.lt x (h.mem x hx)
  have eN : ∀ x ∈ optBlk NA', x ∈ optBlk NA ∨ x = wA.heap.size := by
    intro x hx
    cases NA' with
    | none => cases hx
    | some ad =>
      simp only [optBlk, Option.toList_some, List.map_cons, List.map_nil, List.mem_singleton] at hx
      subst hx
      rcases hlN with e | e
      · exact .inl (own_out e.symm)
      · exact .inr (by simpa [Value.ownBlock] using e)
  have eC : ∀ x ∈ optBlk CA', x ∈ optBlk CA ∨ x = wC.heap.size := by
    intro x hx
    cases CA' with
    | none => cases hx
    | some ad =>
      simp only [optBlk, Option.toList_some, List.map_cons, List.map_nil, List.mem_singleton] at hx
      subst hx
      rcases hlC with e | e
      · exact .inl (own_out e.symm)
      · exact .inr (by simpa [Value.ownBlock] using e)
  have lN : ∀ x ∈ optBlk NA, x < w.heap.size := fun x hx => ltF x (by simp [rctl, hx])
  have lC : ∀ x ∈ optBlk CA, x < w.heap.size := fun x hx => ltF x (by simp [rctl, hx])
  have lg := ltF g (by simp [rctl])
  have lgb := ltF gb (by simp [rctl])
  have bN : ∀ x ∈ optBlk NA', x < wB.heap.size := fun x hx => by
    cases NA' with
    | none => cases hx
    | some ad =>
      simp only [optBlk, Option.toList_some, List.map_cons, List.map_nil, List.mem_singleton] at hx
      subst hx
      exact (OwnV.base hoN ad.block rfl).2
  have bC : ∀ x ∈ optBlk CA', x < wD.heap.size := fun x hx => by
    cases CA' with
    | none => cases hx
    | some ad =>
      simp only [optBlk, Option.toList_some, List.map_cons, List.map_nil, List.mem_singleton] at hx
      subst hx
      exact (OwnV.base hoC ad.block rfl).2
  have gN : g ∉ optBlk NA' := fun hm => by rcases eN g hm with h' | h' <;> first | exact d2 h' | omega
  have gC : g ∉ optBlk CA' := fun hm => by rcases eC g hm with h' | h' <;> first | exact d3 h' | omega
  have gbN : gb ∉ optBlk NA' := fun hm => by rcases eN gb hm with h' | h' <;> first | exact d4 h' | omega
  have gbC : gb ∉ optBlk CA' := fun hm => by rcases eC gb hm with h' | h' <;> first | exact d5 h' | omega
  have dNC : ∀ x ∈ optBlk NA', x ∉ optBlk CA' := fun x hx hy' => by
    have := bN x hx
    rcases eC x hy' with h1 | h1
    · rcases eN x hx with h' | h'
      · exact d1 x h' h1
      · have := lC x h1; omega
    · omega
  have hs1 : TS [g] wD (wD.setCell ⟨g, 1, none⟩ (.slice NA' (D.M.length + 1) nc')) := TS.tb (TB.set wD 1 _) (by simp)
  have hs2 : TS [g] (wD.setCell ⟨g, 1, none⟩ (.slice NA' (D.M.length + 1) nc')) ((wD.setCell ⟨g, 1, none⟩ (.slice NA' (D.M.length + 1) nc')).setCell ⟨g, 2, none⟩ (.slice CA' (D.M.length + 1) cc')) := TS.tb (TB.set _ 2 _) (by simp)
  have hs := hs1.then hs2
  have hrowD := (tAll.block g lg (by simp [d2, d3])).trans h.row
  have hrow1 := heap_setCell_same wD g 1 _ _ (.slice NA' (D.M.length + 1) nc') hrowD
  have hrow2 := heap_setCell_same _ g 2 _ _ (.slice CA' (D.M.length + 1) cc') hrow1
  have hN1 : OwnV 3 wD 0 (.slice NA' (D.M.length + 1) nc') ((D.M.map fun p => .int .i64 p.1) ++ [.int .i64 k]) := by
    have k1 := (TS.of (F := []) f2).ownV hoN (by simp)
    exact tC.ownV k1 (fun b hb hm => by
      have h1 := bN b (own_out hb)
      rcases eN b (own_out hb) with h' | h'
      · exact d1 b h' hm
      · have := lC b hm; omega)
  have hAF : ∀ ad, A = some ad → ad.block ∉ rctl g gb NA' CA' := fun ad ha hm => by
    have h1 := hA ad ha
    simp only [rctl, List.cons_append, List.nil_append, List.mem_cons, List.mem_append] at hm
    rcases hm with e | e | e | e
    · exact h1.2 (h.mem _ (by simp [rctl, e]))
    · exact h1.2 (h.mem _ (by simp [rctl, e]))
    · rcases eN _ e with e | e
      · exact h1.2 (h.mem _ (by simp [rctl, e]))
      · omega
    · rcases eC _ e with e | e
      · exact h1.2 (h.mem _ (by simp [rctl, e]))
      · omega
  refine ⟨optBlk NA' ++ (optBlk CA' ++ (optBlk A ++ F)), fun x hx => ?_, ⟨?_, ?_, ?_, ?_, ?_, ?_, ?_, ?_, ?_, ?_⟩, ?_⟩
  · simp only [List.mem_append] at hx
    rcases hx with hx | hx | hx | hx
    · rcases eN x hx with e | e
      · exact .inl (h.mem x (by simp [rctl, e]))
      · exact .inr (.inr (by omega))
    · rcases eC x hx with e | e
      · exact .inl (h.mem x (by simp [rctl, e]))
      · exact .inr (.inr (by omega))
    · exact .inr (.inl hx)
    · exact .inl hx
  · rw [hrow2]
    simp only [List.length_append, List.length_cons, List.length_nil]
    rfl
  · exact hs.ownV (tAll.ownV h.bytes (fun b hb => by cases hb; simp [d4, d5])) (fun b hb => by cases hb; simp only [List.mem_singleton]; exact fun e => d6 e.symm)
  · simp only [List.length_append, List.length_cons, List.length_nil, List.map_append, List.map_cons, List.map_nil]
    exact hs.ownV hN1 (fun b hb => by simp only [List.mem_singleton]; rintro rfl; exact gN (own_out hb))
  · simp only [List.length_append, List.length_cons, List.length_nil, List.map_append, List.map_cons, List.map_nil]
    exact hs.ownV hoC (fun b hb => by simp only [List.mem_singleton]; rintro rfl; exact gC (own_out hb))
  · have mv : ∀ (A' : Option Addr) (x' : List Byte), Rd w A' x' → (∀ ad, A' = some ad → ad.block ∉ rctl g gb NA CA) → Rd ((wD.setCell ⟨g, 1, none⟩ (.slice NA' (D.M.length + 1) nc')).setCell ⟨g, 2, none⟩ (.slice CA' (D.M.length + 1) cc')) A' x' := fun A' x' hr' hb =>
      hs.rd (tAll.rd hr' (fun ad ha hm => hb ad ha (by simp only [List.mem_append] at hm; simp [rctl, hm]))) (fun ad ha hm => hb ad ha (by simp only [List.mem_singleton] at hm; simp [rctl, hm]))
    have hv := h.vals.move (F' := optBlk NA' ++ (optBlk CA' ++ (optBlk A ++ F))) (ctl' := rctl g gb NA' CA') (fun A' x' hr' hb => mv A' x' hr' (fun ad ha => (hb ad ha).2)) (fun b hb hb' => ⟨by simp [hb], fun hm => by
      have hlb := h.lt b hb
      simp only [rctl, List.cons_append, List.nil_append, List.mem_cons, List.mem_append, not_or] at hm hb'
      rcases hm with e | e | e | e
      · exact hb'.1 e
      · exact hb'.2.1 e
      · rcases eN b e with e | e
        · exact hb'.2.2.1 e
        · omega
      · rcases eC b e with e | e
        · exact hb'.2.2.2 e
        · omega⟩)
    have := hv.snoc k (A := A) (c := ca) (y := y) (mv A y hr (fun ad ha hm => (hA ad ha).2 (h.mem _ hm))) (by omega) h3 (fun ad ha => ⟨by simp [optBlk, ha], hAF ad ha⟩)
    rw [hy] at this
    exact this
  · simp only [rctl, List.cons_append, List.nil_append, List.nodup_cons, List.mem_cons, List.mem_append, not_or, List.nodup_append]
    exact ⟨⟨d6, gN, gC⟩, ⟨gbN, gbC⟩, by cases NA' <;> simp [optBlk], by cases CA' <;> simp [optBlk], fun a ha b hb e => dNC a ha (e ▸ hb)⟩
  · intro x hx
    simp only [rctl, List.cons_append, List.nil_append, List.mem_cons, List.mem_append] at hx ⊢
    rcases hx with e | e | e | e
    · exact .inr (.inr (.inr (h.mem x (by simp [rctl, e]))))
    · exact .inr (.inr (.inr (h.mem x (by simp [rctl, e]))))
    · exact .inl e
    · exact .inr (.inl e)
  · intro x hx
    simp only [List.mem_append] at hx
    have := hs.size
    rcases hx with hx | hx | hx | hx
    · have := bN x hx; omega
    · have := bC x hx; omega
    · cases A with
      | none => cases hx
      | some ad =>
        simp only [optBlk, Option.toList_some, List.map_cons, List.map_nil, List.mem_singleton] at hx
        subst hx
        have := (hA ad rfl).1; omega
    · have := h.lt x hx; omega
  · exact ⟨h.ok.len, h.ok.n1, h.ok.n2, fun p hp => by
      rcases List.mem_append.1 hp with hp | hp
      · exact h.ok.M p hp
      · simp only [List.mem_singleton] at hp; subst hp; exact ⟨hk0, hkn, hy⟩, h.ok.f⟩
  · simp only [List.map_append, List.map_cons, List.map_nil]
    rw [List.nodup_append]
    refine ⟨h.nd, by simp, fun a ha b hb e => ?_⟩
    simp only [List.mem_singleton] at hb
    obtain ⟨p, hp, rfl⟩ := List.mem_map.1 ha
    obtain ⟨j, hj⟩ := List.getElem?_of_mem hp
    exact cget_none_at hno j p hj (by rw [e, hb])
  · have t1 : TS F w wD := ⟨tAll.os, tAll.tape, tAll.output, tAll.size, fun x hx hn => tAll.block x hx (fun hm => hn (by
      simp only [List.mem_append] at hm
      exact h.mem x (by simp [rctl, hm])))⟩
    exact t1.trans hs (fun x hx => .inl (by simp only [List.mem_singleton] at hx; rw [hx]; exact h.mem g (by simp [rctl])))
end
end Go.Proofs.YtihljjfnjclefaaDoor
