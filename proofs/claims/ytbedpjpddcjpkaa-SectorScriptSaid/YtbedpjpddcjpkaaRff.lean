/- The reference's disk: the walk through Read. -/
import Derived.Test.YtbedpjpddcjpkaaRfe
set_option linter.unusedVariables false
set_option linter.unusedSimpArgs false
namespace Go.Proofs.Ytbedpjpddcjpkaa
open Go.ChangeShapes Go.WideShapes Go.ChangeAt Go.RowKit Go.MapKept
set_option maxRecDepth 100000

section
variable {w w' : World} {F F' ctl : List Nat} {V : List (Int × Value)} {M : List (Int × List Byte)}
theorem Vals.len (h : Vals w F ctl V M) : V.length = M.length := by
  have := congrArg List.length h.keys
  simpa using this
theorem Vals.at (h : Vals w F ctl V M) : ∀ {i : Nat} {k : Int} {x : List Byte}, M[i]? = some (k, x) →
    ∃ A c, V[i]? = some (k, .slice A x.length c) ∧ Rd w A x ∧ x.length ≤ c ∧ c ≤ maxLen ∧ ∀ ad, A = some ad → ad.block ∈ F ∧ ad.block ∉ ctl := by
  induction h with
  | nil => intro i k x hi; simp at hi
  | @cons k' A c x' V M hr h1 h2 hb ht ih =>
    intro i k x hi
    cases i with
    | zero =>
      simp only [List.getElem?_cons_zero, Option.some.injEq, Prod.mk.injEq] at hi
      obtain ⟨rfl, rfl⟩ := hi
      exact ⟨A, c, rfl, hr, h1, h2, hb⟩
    | succ i => exact ih (by simpa using hi)
theorem Vals.setAt (h : Vals w F ctl V M) (k : Int) {A : Option Addr} {c : Nat} {y : List Byte} (hr : Rd w A y) (h1 : y.length ≤ c) (h2 : c ≤ maxLen) (hb : ∀ ad, A = some ad → ad.block ∈ F ∧ ad.block ∉ ctl) :
    ∀ i, Vals w F ctl (V.set i (k, .slice A y.length c)) (M.set i (k, y)) := by
  induction h with
  | nil => intro i; exact .nil
  | @cons k' A' c' x' V M hr' h1' h2' hb' ht ih =>
    intro i
    cases i with
    | zero => exact .cons hr h1 h2 hb ht
    | succ i => exact .cons hr' h1' h2' hb' (ih i)
theorem Vals.snoc (h : Vals w F ctl V M) (k : Int) {A : Option Addr} {c : Nat} {y : List Byte} (hr : Rd w A y) (h1 : y.length ≤ c) (h2 : c ≤ maxLen) (hb : ∀ ad, A = some ad → ad.block ∈ F ∧ ad.block ∉ ctl) :
    Vals w F ctl (V ++ [(k, .slice A y.length c)]) (M ++ [(k, y)]) := by
  induction h with
  | nil => exact .cons hr h1 h2 hb .nil
  | cons hr' h1' h2' hb' ht ih => exact .cons hr' h1' h2' hb' ih
end
section
variable {w w' : World} {F F' : List Nat} {g n gb c : Nat} {NA : Option Addr} {nc : Nat} {CA : Option Addr} {cc : Nat} {V : List (Int × Value)} {D : DiskSt}
/-- What is cached at a place. -/
theorem RD.at (h : RD w F g n gb c NA nc CA cc V D) {i : Nat} {k : Int} {x : List Byte} (hi : D.M[i]? = some (k, x)) :
    ∃ (cb : Nat) (A : Option Addr) (ca : Nat), CA = some ⟨cb, 0, none⟩ ∧ w.cell? ⟨cb, i, none⟩ = some (.slice A x.length ca) ∧ w.frozen? ⟨cb, i, none⟩ = false ∧ Rd w A x ∧ x.length ≤ ca ∧ ca ≤ maxLen ∧ (∀ ad, A = some ad → ad.block ∈ F ∧ ad.block ∉ rctl g gb NA CA) ∧
      ∀ u, OwnV 34 (w.setCell ⟨cb, i, none⟩ u) 0 (.slice CA D.M.length cc) ((V.map (·.2)).set i u) := by
  obtain ⟨A, ca, hv, h1, h2, h3, h4⟩ := h.vals.at hi
  have hlt : i < V.length := (List.getElem?_eq_some_iff.1 hv).1
  have hr := h.rows
  have hln : D.M.length = (V.map (·.2)).length := by rw [List.length_map, h.vals.len]
  rw [hln] at hr
  unfold OwnV at hr
  have hr' := hr
  rcases hr.2 with ⟨e, h0⟩ | ⟨cb, cap, cur, e, -, -, -⟩
  · rw [List.length_map] at h0; omega
  · simp only [Value.slice.injEq] at e
    obtain ⟨rfl, -, -⟩ := e
    refine ⟨cb, A, ca, rfl, ?_, World.ownsRow.frozenAt hr' i, h1, h2, h3, h4, fun u => ?_⟩
    · rw [World.ownsRow.cellAt hr' i (by rw [List.length_map]; omega), List.getElem?_map, hv]; rfl
    · have := (World.ownsRow.stored hr' i u).1
      rw [hln]
      unfold OwnV
      rw [List.length_set]
      exact this
set_option maxHeartbeats 1000000 in
theorem ref_Read (h : RDsk w F g n D) (k : Int) :
    Calls Try.prog 25 #[.pointer (some ⟨g, 0, none⟩), .int .i64 k] w fun e w' => ∃ A c, e = .returned (.tuple #[.slice A (sdRead D n k).1.length c, .int .i64 (sdRead D n k).2.1]) ∧ Rd w' A (sdRead D n k).1 ∧ (∀ ad, A = some ad → w.heap.size ≤ ad.block) ∧ RDsk w' F g n (sdRead D n k).2.2 ∧ TS F w w' := by
  have H := Lib.hid h
  unfold sdRead
  by_cases hneg : k < 0
  · rw [if_pos (.inl hneg)]
    clear h
    go_enter Try.func25, Try.ntmps25
    go_wp2
    go_ret2
    exact ⟨none, 0, rfl, Rd.nil _ _, fun ad ha => (by cases ha), H.out, TS.refl _ _⟩
  · by_cases hbig : (n : Int) ≤ k
    · rw [if_pos (.inr hbig)]
      clear h
      go_enter Try.func25, Try.ntmps25
      go_wp2_with fail
      refine (ref_Sectors H.out).mono ?_
      rintro e w1 ⟨rfl, rfl⟩
      go_wp2
      go_ret2
      exact ⟨none, 0, rfl, Rd.nil _ _, fun ad ha => (by cases ha), H.out, TS.refl _ _⟩
    · rw [if_neg (by omega)]
      have HFA := Lib.hid (ref_fails h)
      have hk0 : 0 ≤ k := by omega
      have hkn : k < (n : Int) := by omega
      have hn2 := h.ok.n2
      cases hff : (ffail D.fuse).1 with
      | true =>
        rw [if_pos rfl]
        rw [hff] at HFA
        clear h hff
        go_enter Try.func25, Try.ntmps25
        go_wp2_with fail
        refine (ref_Sectors H.out).mono ?_
        rintro e w1 ⟨rfl, rfl⟩
        go_wp2_with fail
        refine HFA.out.mono ?_
        rintro e w1 ⟨rfl, hd, ht⟩
        have HD1 := Lib.hid hd
        have HT1 := Lib.hid ht
        clear hd ht
        go_wp2
        go_ret2
        exact ⟨none, 0, rfl, Rd.nil _ _, fun ad ha => (by cases ha), HD1.out, HT1.out⟩
      | false =>
        rw [if_neg (by simp)]
        rw [hff] at HFA
        generalize (ffail D.fuse).2 = fz at *
        have hXL : ((cget D.M k).getD (sec D.b k.toNat)).length = 512 := by
          cases hc : cget D.M k with
          | none => exact sec_len h.ok.len (by omega)
          | some y =>
            obtain ⟨j, -, hj⟩ := cget_some_at hc
            exact (h.ok.M _ (List.mem_of_getElem? hj)).2.2
        generalize hX : (cget D.M k).getD (sec D.b k.toNat) = xs at *
        have HX := Lib.hid hX
        have HXL := Lib.hid hXL
        rw [hXL]
        clear h hff hX hXL
        go_enter Try.func25, Try.ntmps25
        go_wp2_with fail
        refine (ref_Sectors H.out).mono ?_
        rintro e w1 ⟨rfl, rfl⟩
        go_wp2_with fail
        refine HFA.out.mono ?_
        rintro e w1 ⟨rfl, hd, ht⟩
        have HD1 := Lib.hid hd
        have HT1 := Lib.hid ht
        clear hd ht
        go_wp2_with fail
        refine (ref_find HD1.out k).mono ?_
        rintro e w2 ⟨rfl, rfl⟩
        obtain ⟨gb, c, NA, nc, CA, cc, V, hD⟩ := HD1.out
        have hDa := hD.fb ((FB.refl w1).alloc (.cells #[] 5))
        have HML := Lib.hid hD.mlen
        obtain ⟨q0, q1, q2, q3⟩ := row4 hDa.row
        simp only at q1 q2
        rcases cfi_spec D.M k with ⟨h1, h2, -, -⟩ | ⟨i, x, h1, h2, h3, h4, -, -⟩
        · rw [show cfiZ D.M k = -1 from by unfold cfiZ; rw [h1]]
          have hxs : sec D.b k.toNat = xs := by have := HX.out; rw [h2] at this; exact this
          clear h1 h2
          obtain ⟨kn, rfl⟩ : ∃ kn : Nat, k = (kn : Int) := ⟨k.toNat, by omega⟩
          have hkn2 : kn < n := by omega
          have hL := hD.ok.len
          simp only at hL
          have hi := (Own.info hDa.bytes)
          obtain ⟨A', hcut, hcr, hA⟩ := cut_at (some ⟨gb, 0, none⟩) c D.b (512 * kn) 512 (by omega) (by rw [hL]; have := hi.1; simp only [hL] at this; omega)
          rw [hL] at hcut
          have HRS := Lib.hid (show Rd (w1.alloc (.cells #[] 5)) A' xs from by rw [← hxs]; exact hcr _ hi.2.2.1)
          have hw1 : IntKind.i64.wrap ((kn : Int) * 512) = (kn : Int) * 512 := by rw [IntKind.wrap_i64]; omega
          have hw2 : IntKind.i64.wrap ((kn : Int) + 1) = (kn : Int) + 1 := by rw [IntKind.wrap_i64]; omega
          have hw3 : IntKind.i64.wrap (((kn : Int) + 1) * 512) = ((kn : Int) + 1) * 512 := by rw [IntKind.wrap_i64]; omega
          have hcut2 : ∀ W, (Instr.slice 34 (.slice (some ⟨gb, 0, none⟩) (512 * n) c) (some (.int .i64 ((kn : Int) * 512))) (some (.int .i64 (((kn : Int) + 1) * 512))) none).run Try.prog W = .ok (.slice A' 512 (c - 512 * kn)) W := fun W => by
            have := hcut W
            rw [show ((512 * kn : Nat) : Int) = (kn : Int) * 512 by omega, show (kn : Int) * 512 + ((512 : Nat) : Int) = ((kn : Int) + 1) * 512 by omega] at this
            exact this
          clear hD hDa hL hi hcut hcr hA hxs
          go_wp2_with (at_builtin; refine wpList_append_bytes rfl _ _ rfl w1.heap.size _ [] (OwnV.lit _ w1 [] (by simp)) rfl _ _ xs (by rw [HXL.out]; rfl) HRS.out (by have := HXL.out; simp; omega) (by simp) ?_; intro v' w3 ho hg _; have HO := Lib.hid ho; have HG := Lib.hid hg; clear ho hg)
          have ho := HO.out
          rw [List.nil_append] at ho
          obtain ⟨A3, c3, rfl, -⟩ := ho.form
          rw [HXL.out] at ho ⊢
          have HO3 := Lib.hid (Own.info ho)
          have HF3 := Lib.hid (show FB w1 w3 from ((FB.refl w1).alloc _).grown HG.out (by simp [Value.ownBlock]))
          clear ho HO HG
          go_ret2
          exact ⟨A3, c3, rfl, HO3.out.2.2.1, fun ad ha => Nat.le_trans HT1.out.size (HO3.out.2.2.2.2 ad ha).1, HD1.out.fb HF3.out, HT1.out.then (TS.of HF3.out)⟩
        · rw [show cfiZ D.M k = (i : Int) from by unfold cfiZ; rw [h1]]
          obtain rfl : x = xs := by have := HX.out; rw [h4] at this; exact this
          obtain ⟨cb, A, ca, rfl, r1, -, r2, r3, r4, -, -⟩ := hDa.at h3
          have hml : (D.M.length : Int) ≤ 32768 := by have := HML.out; simp only at this; omega
          have hil : (i : Int) < (D.M.length : Int) := by omega
          have HRX := Lib.hid r2
          have hi0 : ¬ (i : Int) < 0 := by omega
          have hi1 : (0 : Int) ≤ (i : Int) := by omega
          rw [HXL.out] at r1
          clear h1 h2 h3 h4 r2 r3 r4 hD hDa
          go_wp2_with (at_builtin; refine wpList_append_bytes rfl _ _ rfl w1.heap.size _ [] (OwnV.lit _ w1 [] (by simp)) rfl _ _ x (by rw [HXL.out]; rfl) HRX.out (by have := HXL.out; simp; omega) (by simp) ?_; intro v' w3 ho hg _; have HO := Lib.hid ho; have HG := Lib.hid hg; clear ho hg)
          have ho := HO.out
          rw [List.nil_append] at ho
          obtain ⟨A3, c3, rfl, -⟩ := ho.form
          rw [HXL.out] at ho ⊢
          have HO3 := Lib.hid (Own.info ho)
          have HF3 := Lib.hid (show FB w1 w3 from ((FB.refl w1).alloc _).grown HG.out (by simp [Value.ownBlock]))
          clear ho HO HG
          go_ret2
          exact ⟨A3, c3, rfl, HO3.out.2.2.1, fun ad ha => Nat.le_trans HT1.out.size (HO3.out.2.2.2.2 ad ha).1, HD1.out.fb HF3.out, HT1.out.then (TS.of HF3.out)⟩
end
end Go.Proofs.Ytbedpjpddcjpkaa
