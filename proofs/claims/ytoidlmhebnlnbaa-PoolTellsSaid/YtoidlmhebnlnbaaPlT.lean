/- PoolTells, plain: what was put, how often a page is pinned; what the frames tell together. -/
import Derived.Test.YtoidlmhebnlnbaaPlQ
set_option linter.unusedVariables false
set_option linter.unusedSimpArgs false
namespace Go.Proofs.Ytoidlmhebnlnbaa
open Go.ChangeShapes Go.WideShapes Go.ChangeAt Go.RowKit
set_option maxRecDepth 100000

/-- P pages; i calls so far; what was put; how often each is pinned. -/
structure TlP (P fr i : Nat) (hs : List Byte) (ps : List Int) (st : PlSt) : Prop where
  inv : PlInv (8 * P) st
  fl : st.fs.length = fr
  hl : hs.length = P
  pl : ps.length = P
  v : ∀ k : Nat, k < P → plV st k = List.replicate 4096 (hs.getD k 0#8)
  p : ∀ k : Nat, k < P → plN st k = ps.getD k 0
  b : ∀ k : Nat, k < P → 0 ≤ ps.getD k 0 ∧ ps.getD k 0 ≤ i
theorem getD_setI {α : Type} (xs : List α) (k : Nat) (x d : α) (h : k < xs.length) (j : Nat) : (xs.set k x).getD j d = if j = k then x else xs.getD j d := by
  rw [List.getD_eq_getElem?_getD, List.getD_eq_getElem?_getD, List.getElem?_set]
  by_cases e : k = j
  · subst e; rw [if_pos rfl, if_pos h, if_pos rfl]; rfl
  · rw [if_neg e, if_neg (fun h => e h.symm)]
section
variable {P fr i k : Nat} {hs : List Byte} {ps : List Int} {st st' : PlSt}
theorem TlP.k8 (hk : k < P) : k < 8 * P / 8 := by omega
theorem TlP.same (h : TlP P fr i hs ps st) (hi : PlInv (8 * P) st') (hl : st'.fs.length = st.fs.length) (he : PlEq st st') : TlP P fr (i + 1) hs ps st' :=
  ⟨hi, hl.trans h.fl, h.hl, h.pl, fun k hk => (he k).1.trans (h.v k hk), fun k hk => (he k).2.trans (h.p k hk), fun k hk => ⟨(h.b k hk).1, by have := (h.b k hk).2; omega⟩⟩
theorem tl_get (h : TlP P fr i hs ps st) (hk : k < P) : ((plGet (8 * P) st k).1.2 = 9 ∨ ((plGet (8 * P) st k).1.2 = 0 ∧ plGetB (8 * P) st k = List.replicate 4096 (hs.getD k 0#8))) ∧ TlP P fr (i + 1) hs ps (plGet (8 * P) st k).2 := by
  obtain ⟨g1, g2, g3⟩ := plGet_ok h.inv (TlP.k8 hk)
  refine ⟨?_, h.same g1 (plGet_lenI h.inv (TlP.k8 hk)) g2⟩
  rcases g3 with ⟨g3, -⟩ | ⟨j, g3, -, g5⟩
  · left; rw [g3]
  · right; exact ⟨by rw [g3], g5.trans (h.v k hk)⟩
theorem tl_put (h : TlP P fr i hs ps st) (hk : k < P) (v : Byte) : ((plPut (8 * P) st k (List.replicate 4096 v)).1 = 9 ∧ TlP P fr (i + 1) hs ps (plPut (8 * P) st k (List.replicate 4096 v)).2) ∨
    ((plPut (8 * P) st k (List.replicate 4096 v)).1 = 0 ∧ TlP P fr (i + 1) (hs.set k v) ps (plPut (8 * P) st k (List.replicate 4096 v)).2) := by
  obtain ⟨p1, p2, p3⟩ := plPut_ok (xs := List.replicate 4096 v) h.inv (TlP.k8 hk) (by simp)
  rcases p3 with ⟨p3, -, p4⟩ | ⟨p3, -, p4⟩
  · exact .inl ⟨p3, h.same p1 p2 p4⟩
  · refine .inr ⟨p3, p1, p2.trans h.fl, by rw [List.length_set]; exact h.hl, h.pl, fun j hj => ?_, fun j hj => (p4 j).2.trans (h.p j hj), fun j hj => ⟨(h.b j hj).1, by have := (h.b j hj).2; omega⟩⟩
    rw [(p4 j).1, getD_setI _ _ _ _ (by rw [h.hl]; exact hk)]
    split
    · rfl
    · exact h.v j hj
theorem tl_pin (h : TlP P fr i hs ps st) (hi : i ≤ 1000) (hk : k < P) : ((plPin (8 * P) st k).1 = 9 ∧ TlP P fr (i + 1) hs ps (plPin (8 * P) st k).2) ∨
    ((plPin (8 * P) st k).1 = 0 ∧ TlP P fr (i + 1) hs (ps.set k (ps.getD k 0 + 1)) (plPin (8 * P) st k).2) := by
  have hb := h.b k hk
  have hp := h.p k hk
  obtain ⟨p1, p2, p3⟩ := plPin_ok h.inv (TlP.k8 hk) (by rw [hp]; omega)
  rcases p3 with ⟨p3, -, p4⟩ | ⟨p3, -, p4⟩
  · exact .inl ⟨p3, h.same p1 p2 p4⟩
  · refine .inr ⟨p3, p1, p2.trans h.fl, h.hl, by rw [List.length_set]; exact h.pl, fun j hj => (p4 j).1.trans (h.v j hj), fun j hj => ?_, fun j hj => ?_⟩
    · rw [(p4 j).2, getD_setI _ _ _ _ (by rw [h.pl]; exact hk)]
      split
      · rw [hp]
      · exact h.p j hj
    · rw [getD_setI _ _ _ _ (by rw [h.pl]; exact hk)]
      have := h.b j hj
      split <;> omega
theorem tl_unpin (h : TlP P fr i hs ps st) (hi : i ≤ 1000) (hk : k < P) : (ps.getD k 0 = 0 ∧ plUnpin st k = (6, st) ∧ TlP P fr (i + 1) hs (ps.set k 0) st) ∨
    (0 < ps.getD k 0 ∧ (plUnpin st k).1 = 0 ∧ TlP P fr (i + 1) hs (ps.set k (ps.getD k 0 - 1)) (plUnpin st k).2) := by
  have hb := h.b k hk
  have hp := h.p k hk
  rcases Int.lt_or_le 0 (ps.getD k 0) with h0 | h0
  · right
    obtain ⟨u1, u2, u3, u4⟩ := plUnpin_pos h.inv (k := k) (by rw [hp]; exact h0) (by rw [hp]; omega)
    refine ⟨h0, u1, u2, u3.trans h.fl, h.hl, by rw [List.length_set]; exact h.pl, fun j hj => (u4 j).1.trans (h.v j hj), fun j hj => ?_, fun j hj => ?_⟩
    · rw [(u4 j).2, getD_setI _ _ _ _ (by rw [h.pl]; exact hk)]
      split
      · rw [hp]
      · exact h.p j hj
    · rw [getD_setI _ _ _ _ (by rw [h.pl]; exact hk)]
      have := h.b j hj
      split <;> omega
  · left
    have h0' : ps.getD k 0 = 0 := by omega
    have hset : ps.set k 0 = ps := by
      apply List.ext_getElem (by simp)
      intro j h1 h2
      rw [List.getElem_set]
      split
      · rename_i e; subst e
        rw [← h0', List.getD_eq_getElem?_getD, List.getElem?_eq_getElem h2]; rfl
      · rfl
    refine ⟨h0', plUnpin_zero (by rw [hp, h0']), ?_⟩
    rw [hset]
    exact h.same h.inv rfl (PlEq.refl _)
theorem tl_evict (h : TlP P fr i hs ps st) (x : Int) : TlP P fr (i + 1) hs ps (plEvict (8 * P) st x).2 := by
  obtain ⟨e1, e2, e3⟩ := plEvict_ok h.inv x
  exact h.same e1 e3 e2
theorem tl_clean (h : TlP P fr i hs ps st) : (plClean (8 * P) st).1 = 0 ∧ TlP P fr (i + 1) hs ps (plClean (8 * P) st).2 := by
  obtain ⟨c1, c2, c3, c4⟩ := plClean_ok h.inv
  exact ⟨c1, h.same c2 c3.len c4⟩
theorem tl_flush (h : TlP P fr i hs ps st) (ho : (plClean (8 * P) st).2.D.ok (8 * P)) (hn : ((plClean (8 * P) st).2.D.M.map (·.1)).Nodup) : (plFlush (8 * P) st).1 = 0 ∧
    ∃ b, (plFlush (8 * P) st).2.D = ⟨b, [], none⟩ ∧ ∀ k : Nat, k < P → (b.drop (4096 * k)).take 4096 = List.replicate 4096 (hs.getD k 0#8) := by
  obtain ⟨f1, f2, f3, ⟨b, f4⟩, f5, f6⟩ := plFlush_ok h.inv ho hn
  refine ⟨f1, b, f4, fun k hk => ?_⟩
  have := (f5 k (TlP.k8 hk)).2
  rw [f4] at this
  unfold pgAt at this
  rw [catV_image] at this
  rw [this]; exact h.v k hk
theorem tl_start (hP : 1 ≤ P) (h8 : 8 ≤ fr) : TlP P fr 0 (List.replicate P 0#8) (List.replicate P 0) ⟨List.replicate fr frm0, 0, ⟨List.replicate (512 * (8 * P)) 0#8, [], none⟩⟩ := by
  refine ⟨PlInv.fresh (by omega) rfl (fun k hk => by rw [pgAt_new hk]; simp), by simp, by simp, by simp, fun k hk => ?_, fun k hk => ?_, fun k hk => ?_⟩
  · rw [plV_miss (find_fresh fr k), pgAt_new (TlP.k8 hk), List.getD_eq_getElem?_getD, List.getElem?_replicate, if_pos hk]; rfl
  · rw [plN_miss (find_fresh fr k), List.getD_eq_getElem?_getD, List.getElem?_replicate, if_pos hk]; rfl
  · rw [List.getD_eq_getElem?_getD, List.getElem?_replicate, if_pos hk]; simp
/-- What the first j frames tell of a page. -/
def hdV (st : PlSt) (j k : Nat) : Int := match plFind st.fs k with | some i => if i < j then (st.fs.getD i frm0).pins else 0 | none => 0
def hdL (st : PlSt) (P j : Nat) : List Int := (List.range P).map (hdV st j)
theorem hdL_len (st : PlSt) (P j : Nat) : (hdL st P j).length = P := by simp [hdL]
theorem hdL_get (st : PlSt) (P j k : Nat) (hk : k < P) : (hdL st P j).getD k 0 = hdV st j k := by
  unfold hdL
  rw [List.getD_eq_getElem?_getD, List.getElem?_map, List.getElem?_range hk]; rfl
theorem hdL_zero (st : PlSt) (P : Nat) : hdL st P 0 = List.replicate P 0 := by
  apply List.ext_getElem (by simp [hdL])
  intro j h1 h2
  simp only [hdL, List.getElem_map, List.getElem_range, List.getElem_replicate]
  unfold hdV
  split
  · rw [if_neg (by omega)]
  · rfl
theorem hdL_end (h : TlP P fr i hs ps st) : hdL st P fr = ps := by
  apply List.ext_getElem (by rw [hdL_len, h.pl])
  intro j h1 h2
  have hj : j < P := by rw [hdL_len] at h1; exact h1
  have hp := h.p j hj
  rw [List.getD_eq_getElem?_getD, List.getElem?_eq_getElem h2] at hp
  simp only [hdL, List.getElem_map, List.getElem_range]
  simp only [Option.getD_some] at hp
  rw [← hp]
  unfold hdV plN
  cases hf : plFind st.fs (j : Int) with
  | none => rfl
  | some x => exact if_pos (by rw [← h.fl]; exact (find_some hf).1)
theorem hdL_off (h : PlInv (8 * P) st) {j : Nat} (hj : (st.fs.getD j frm0).is = false) : hdL st P (j + 1) = hdL st P j := by
  unfold hdL
  refine List.map_congr_left (fun k _ => ?_)
  unfold hdV
  cases hf : plFind st.fs (k : Int) with
  | none => rfl
  | some x =>
    obtain ⟨-, f2, -⟩ := find_some hf
    have hx : x ≠ j := fun e => by rw [e, hj] at f2; cases f2
    show (if x < j + 1 then _ else (0 : Int)) = if x < j then _ else 0
    by_cases e : x < j
    · rw [if_pos e, if_pos (by omega)]
    · rw [if_neg e, if_neg (by omega)]
theorem hdL_on (h : PlInv (8 * P) st) {j k : Nat} (hj : (st.fs.getD j frm0).is = true) (hk : (st.fs.getD j frm0).pg = (k : Int)) (hkP : k < P) :
    (hdL st P j).getD k 0 = 0 ∧ hdL st P (j + 1) = (hdL st P j).set k (st.fs.getD j frm0).pins := by
  have hf := h.hit hj hk
  refine ⟨?_, ?_⟩
  · rw [hdL_get st P j k hkP]; unfold hdV; rw [hf]; exact if_neg (by omega)
  · apply List.ext_getElem (by simp [hdL])
    intro x h1 h2
    have hx : x < P := by rw [hdL_len] at h1; exact h1
    rw [List.getElem_set]
    simp only [hdL, List.getElem_map, List.getElem_range]
    split
    · rename_i e; subst e
      unfold hdV; rw [hf]; exact if_pos (by omega)
    · rename_i e
      unfold hdV
      cases hg : plFind st.fs (x : Int) with
      | none => rfl
      | some y =>
        obtain ⟨-, f2, f3⟩ := find_some hg
        have hy : y ≠ j := fun e2 => by rw [e2, hk] at f3; omega
        show (if y < j + 1 then _ else (0 : Int)) = if y < j then _ else 0
        by_cases e3 : y < j
        · rw [if_pos e3, if_pos (by omega)]
        · rw [if_neg e3, if_neg (by omega)]
end
end Go.Proofs.Ytoidlmhebnlnbaa
