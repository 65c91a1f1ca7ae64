/- pool, plain: what its state tells of each page; what each method leaves of it, where no fault is set. -/
import Derived.Test.YtoidlmhebnlnbaaPlL
import Derived.Test.YtoidlmhebnlnbaaPgO
set_option linter.unusedVariables false
set_option linter.unusedSimpArgs false
namespace Go.Proofs.Ytoidlmhebnlnbaa
open Go.ChangeShapes Go.WideShapes Go.ChangeAt Go.RowKit
set_option maxRecDepth 100000

def pgAt (D : DiskSt) (k : Nat) : List Byte := catV (secV D) 8 (k * 8)
theorem save_pg {D : DiskSt} {n k : Nat} {xs : List Byte} (hf : D.fuse = none) (hk : k < n / 8) (hl : xs.length = 4096) :
    ∃ M, sdSave D n (k : Int) xs = (0, ⟨D.b, M, none⟩) ∧ ∀ k', pgAt ⟨D.b, M, none⟩ k' = if k' = k then xs else pgAt D k' := by
  obtain ⟨M, h1, h2⟩ := sdSave_ok (D := D) (n := n) (k := k) (xs := xs) hf hk hl
  refine ⟨M, h1, fun k' => ?_⟩
  unfold pgAt
  rw [show secV ⟨D.b, M, none⟩ = layV (secV D) k xs 8 from funext h2]
  split
  · rename_i e; subst e; exact layV_same _ hl
  · rename_i e; exact layV_other _ xs e
theorem load_pg {D : DiskSt} {n k : Nat} (hf : D.fuse = none) (hk : k < n / 8) : sdLoad D n (k : Int) = (pgAt D k, 0, D) := sdLoad_ok hf hk
theorem fr_set (fs : List Frm) (i : Nat) (x : Frm) (hi : i < fs.length) (j : Nat) : (fs.set i x).getD j frm0 = if j = i then x else fs.getD j frm0 := by
  rw [List.getD_eq_getElem?_getD, List.getD_eq_getElem?_getD, List.getElem?_set]
  by_cases e : i = j
  · subst e; rw [if_pos rfl, if_pos hi, if_pos rfl]; rfl
  · rw [if_neg e, if_neg (fun h => e h.symm)]
theorem fr_out {fs : List Frm} {i : Nat} (h : (fs.getD i frm0).is = true) : i < fs.length := by
  rcases Nat.lt_or_ge i fs.length with hh | hh
  · exact hh
  · rw [List.getD_eq_getElem?_getD, List.getElem?_eq_none hh] at h; cases h
structure PlInv (n : Nat) (st : PlSt) : Prop where
  fuse : st.D.fuse = none
  hand : st.hand < st.fs.length
  off : ∀ i, (st.fs.getD i frm0).is = false → st.fs.getD i frm0 = frm0
  pg : ∀ i, (st.fs.getD i frm0).is = true → ∃ k : Nat, (st.fs.getD i frm0).pg = k ∧ k < n / 8
  len : ∀ i, (st.fs.getD i frm0).is = true → (st.fs.getD i frm0).b.length = 4096
  pins : ∀ i, 0 ≤ (st.fs.getD i frm0).pins
  uniq : ∀ i j, (st.fs.getD i frm0).is = true → (st.fs.getD j frm0).is = true → (st.fs.getD i frm0).pg = (st.fs.getD j frm0).pg → i = j
  cln : ∀ i (k : Nat), (st.fs.getD i frm0).is = true → (st.fs.getD i frm0).dirty = false → (st.fs.getD i frm0).pg = k → (st.fs.getD i frm0).b = pgAt st.D k
  plen : ∀ k : Nat, k < n / 8 → (pgAt st.D k).length = 4096
def plV (st : PlSt) (k : Nat) : List Byte := match plFind st.fs k with | some i => (st.fs.getD i frm0).b | none => pgAt st.D k
def plN (st : PlSt) (k : Nat) : Int := match plFind st.fs k with | some i => (st.fs.getD i frm0).pins | none => 0
theorem find_some {fs : List Frm} {k : Int} {i : Nat} (h : plFind fs k = some i) : i < fs.length ∧ (fs.getD i frm0).is = true ∧ (fs.getD i frm0).pg = k := by
  obtain ⟨h1, h2⟩ := plFind_lt h
  unfold plHas at h2
  simp only [Bool.and_eq_true, decide_eq_true_eq] at h2
  exact ⟨h1, h2⟩
theorem find_none {fs : List Frm} {k : Int} (h : plFind fs k = none) (i : Nat) (hi : (fs.getD i frm0).is = true) : (fs.getD i frm0).pg ≠ k := by
  have hlt := fr_out hi
  have := plIx_none h (fs.getD i frm0) (by rw [List.getD_eq_getElem?_getD, List.getElem?_eq_getElem hlt]; exact List.getElem_mem hlt)
  unfold plHas at this
  rw [hi] at this
  simpa using this
section
variable {n : Nat} {st : PlSt}
theorem PlInv.hit (h : PlInv n st) {i : Nat} {k : Int} (hi : (st.fs.getD i frm0).is = true) (hk : (st.fs.getD i frm0).pg = k) : plFind st.fs k = some i := by
  cases hf : plFind st.fs k with
  | none => exact absurd hk (find_none hf i hi)
  | some j =>
    obtain ⟨h1, h2, h3⟩ := find_some hf
    rw [h.uniq j i h2 hi (by rw [h3, hk])]
theorem plV_hit {i k : Nat} (hf : plFind st.fs k = some i) : plV st k = (st.fs.getD i frm0).b := by unfold plV; rw [hf]
theorem plV_miss {k : Nat} (hf : plFind st.fs k = none) : plV st k = pgAt st.D k := by unfold plV; rw [hf]
theorem plN_hit {i k : Nat} (hf : plFind st.fs k = some i) : plN st k = (st.fs.getD i frm0).pins := by unfold plN; rw [hf]
theorem plN_miss {k : Nat} (hf : plFind st.fs k = none) : plN st k = 0 := by unfold plN; rw [hf]
theorem miss_of {fs : List Frm} {k : Int} (h : ∀ i, (fs.getD i frm0).is = true → (fs.getD i frm0).pg ≠ k) : plFind fs k = none := by
  cases hf : plFind fs k with
  | none => rfl
  | some j => obtain ⟨h1, h2, h3⟩ := find_some hf; exact absurd h3 (h j h2)
/-- One frame is changed. -/
theorem PlInv.upd (h : PlInv n st) {i : Nat} (hi : i < st.fs.length) (x : Frm) (hd : Nat) (hh : hd < st.fs.length) (D' : DiskSt) (hf : D'.fuse = none)
    (h1 : x.is = false → x = frm0) (h2 : x.is = true → ∃ k : Nat, x.pg = k ∧ k < n / 8) (h3 : x.is = true → x.b.length = 4096) (h4 : 0 ≤ x.pins)
    (h5 : x.is = true → ∀ j, j ≠ i → (st.fs.getD j frm0).is = true → (st.fs.getD j frm0).pg ≠ x.pg)
    (h6 : ∀ j (k : Nat), j ≠ i → (st.fs.getD j frm0).is = true → (st.fs.getD j frm0).dirty = false → (st.fs.getD j frm0).pg = k → pgAt D' k = pgAt st.D k)
    (h7 : ∀ k : Nat, x.is = true → x.dirty = false → x.pg = k → x.b = pgAt D' k) (h8 : ∀ k : Nat, k < n / 8 → (pgAt D' k).length = 4096) : PlInv n ⟨st.fs.set i x, hd, D'⟩ := by
  have q := fun j => fr_set st.fs i x hi j
  refine ⟨hf, by rw [List.length_set]; exact hh, fun j => ?_, fun j => ?_, fun j => ?_, fun j => ?_, fun j j' => ?_, fun j k => ?_, h8⟩ <;> simp only [q]
  · split
    · exact h1
    · exact h.off j
  · split
    · exact h2
    · exact h.pg j
  · split
    · exact h3
    · exact h.len j
  · split
    · exact h4
    · exact h.pins j
  · by_cases e1 : j = i
    · rw [if_pos e1]
      by_cases e2 : j' = i
      · rw [if_pos e2]; intros; rw [e1, e2]
      · rw [if_neg e2]; intro a b c; exact absurd c.symm (h5 a j' e2 b)
    · rw [if_neg e1]
      by_cases e2 : j' = i
      · rw [if_pos e2]; intro a b c; exact absurd c (h5 b j e1 a)
      · rw [if_neg e2]; exact h.uniq j j'
  · split
    · exact h7 k
    · rename_i e
      intro a b c
      rw [h6 j k e a b c]
      exact h.cln j k a b c
/-- What a changed frame leaves of each page. -/
theorem PlInv.look (h : PlInv n st) {i : Nat} (hi : i < st.fs.length) {x : Frm} {hd : Nat} {D' : DiskSt} (h' : PlInv n ⟨st.fs.set i x, hd, D'⟩) (k : Nat)
    (hA : x.is = true → x.pg = k → (st.fs.getD i frm0).is = true ∧ (st.fs.getD i frm0).pg = k)
    (hB : (st.fs.getD i frm0).is = true → (st.fs.getD i frm0).pg = k → (x.is = true ∧ x.pg = k ∧ x.b = (st.fs.getD i frm0).b ∧ x.pins = (st.fs.getD i frm0).pins) ∨ (x.is = false ∧ pgAt D' k = (st.fs.getD i frm0).b ∧ (st.fs.getD i frm0).pins = 0))
    (hC : ((st.fs.getD i frm0).is = true → (st.fs.getD i frm0).pg ≠ k) → pgAt D' k = pgAt st.D k) :
    plV ⟨st.fs.set i x, hd, D'⟩ k = plV st k ∧ plN ⟨st.fs.set i x, hd, D'⟩ k = plN st k := by
  have q := fun j => fr_set st.fs i x hi j
  cases hf : plFind st.fs (k : Int) with
  | some j =>
    obtain ⟨f1, f2, f3⟩ := find_some hf
    by_cases e : j = i
    · subst e
      rcases hB f2 f3 with ⟨b1, b2, b3, b4⟩ | ⟨b1, b2, b3⟩
      · have hf' : plFind (st.fs.set j x) (k : Int) = some j := h'.hit (by simp only [q, if_true]; exact b1) (by simp only [q, if_true]; exact b2)
        rw [plV_hit (st := ⟨st.fs.set j x, hd, D'⟩) hf', plN_hit (st := ⟨st.fs.set j x, hd, D'⟩) hf', plV_hit hf, plN_hit hf]
        simp only [q, if_true]
        exact ⟨b3, b4⟩
      · have hf' : plFind (st.fs.set j x) (k : Int) = none := miss_of (fun j' => by
          simp only [q]
          split
          · intro a; rw [b1] at a; cases a
          · rename_i e'; intro a b; exact e' (h.uniq _ _ a f2 (by rw [b, f3])))
        rw [plV_miss (st := ⟨st.fs.set j x, hd, D'⟩) hf', plN_miss (st := ⟨st.fs.set j x, hd, D'⟩) hf', plV_hit hf, plN_hit hf]
        exact ⟨b2, b3.symm⟩
    · have hf' : plFind (st.fs.set i x) (k : Int) = some j := h'.hit (by simp only [q]; rw [if_neg e]; exact f2) (by simp only [q]; rw [if_neg e]; exact f3)
      rw [plV_hit (st := ⟨st.fs.set i x, hd, D'⟩) hf', plN_hit (st := ⟨st.fs.set i x, hd, D'⟩) hf', plV_hit hf, plN_hit hf]
      simp only [q]
      rw [if_neg e]
      exact ⟨rfl, rfl⟩
  | none =>
    have hn := find_none hf
    have hf' : plFind (st.fs.set i x) (k : Int) = none := miss_of (fun j' => by
      simp only [q]
      split
      · intro a b
        obtain ⟨c1, c2⟩ := hA a b
        exact hn i c1 c2
      · exact hn j')
    rw [plV_miss (st := ⟨st.fs.set i x, hd, D'⟩) hf', plN_miss (st := ⟨st.fs.set i x, hd, D'⟩) hf', plV_miss hf, plN_miss hf]
    exact ⟨hC (hn i), rfl⟩
/-- Nothing is told otherwise. -/
def PlEq (st st' : PlSt) : Prop := ∀ k : Nat, plV st' k = plV st k ∧ plN st' k = plN st k
theorem PlEq.refl (st : PlSt) : PlEq st st := fun _ => ⟨rfl, rfl⟩
theorem PlEq.trans {a b c : PlSt} (h : PlEq a b) (k : PlEq b c) : PlEq a c := fun x => ⟨(k x).1.trans (h x).1, (k x).2.trans (h x).2⟩
/-- A frame with the same page and bytes and pins, over the same disk. -/
theorem PlInv.mark (h : PlInv n st) {i : Nat} (hi : i < st.fs.length) (x : Frm) (hd : Nat) (hh : hd < st.fs.length) (h1 : x.is = (st.fs.getD i frm0).is) (h2 : x.pg = (st.fs.getD i frm0).pg) (h3 : x.b = (st.fs.getD i frm0).b) (h4 : x.pins = (st.fs.getD i frm0).pins)
    (h5 : x.is = false → x = frm0) (h6 : x.dirty = false → (st.fs.getD i frm0).dirty = false) : PlInv n ⟨st.fs.set i x, hd, st.D⟩ ∧ PlEq st ⟨st.fs.set i x, hd, st.D⟩ := by
  have hI : PlInv n ⟨st.fs.set i x, hd, st.D⟩ := h.upd hi x hd hh st.D h.fuse h5 (fun a => by rw [h2]; exact h.pg i (by rw [← h1]; exact a)) (fun a => by rw [h3]; exact h.len i (by rw [← h1]; exact a)) (by rw [h4]; exact h.pins i)
    (fun a j hj b c => hj (h.uniq _ _ b (by rw [← h1]; exact a) (by rw [c, h2]))) (fun _ _ _ _ _ _ => rfl) (fun k a b c => by rw [h3]; exact h.cln i k (by rw [← h1]; exact a) (h6 b) (by rw [← h2]; exact c)) h.plen
  exact ⟨hI, fun k => h.look hi hI k (fun a b => ⟨by rw [← h1]; exact a, by rw [← h2]; exact b⟩) (fun a b => .inl ⟨by rw [h1]; exact a, by rw [h2]; exact b, h3, h4⟩) (fun _ => rfl)⟩
/-- A frame is saved. -/
theorem PlInv.saved (h : PlInv n st) (i : Nat) : ∃ D', plSave (st.fs.getD i frm0) n st.D = (0, (if (st.fs.getD i frm0).is then { (st.fs.getD i frm0) with dirty := false } else (st.fs.getD i frm0)), D') ∧ D'.fuse = none ∧
    ∀ k : Nat, pgAt D' k = if (st.fs.getD i frm0).is = true ∧ (st.fs.getD i frm0).pg = k then (st.fs.getD i frm0).b else pgAt st.D k := by
  have hc := h.cln i
  have hp := h.pg i
  have hl := h.len i
  generalize st.fs.getD i frm0 = f at *
  obtain ⟨is, pg, pins, dirty, used, b⟩ := f
  cases is with
  | false => exact ⟨st.D, rfl, h.fuse, fun k => by simp⟩
  | true =>
    cases dirty with
    | false =>
      refine ⟨st.D, rfl, h.fuse, fun k => ?_⟩
      split
      · rename_i e; exact (hc k rfl rfl e.2).symm
      · rfl
    | true =>
      obtain ⟨k0, e1, e2⟩ := hp rfl
      simp only at e1
      subst e1
      obtain ⟨M, s1, s2⟩ := save_pg (xs := b) h.fuse e2 (hl rfl)
      refine ⟨⟨st.D.b, M, none⟩, ?_, rfl, fun k => ?_⟩
      · unfold plSave
        simp only [Bool.and_self, if_true, s1]
      · rw [s2 k]
        by_cases e : k = k0
        · subst e; simp
        · rw [if_neg e, if_neg (fun hh => e (by have := hh.2; simp only at this; omega))]
end
end Go.Proofs.Ytoidlmhebnlnbaa
