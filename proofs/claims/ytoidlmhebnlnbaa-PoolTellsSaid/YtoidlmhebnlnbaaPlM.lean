/- pool: how it lies. -/
import Derived.Test.YtoidlmhebnlnbaaPlP
import Derived.Laws.CopyRow
set_option linter.unusedVariables false
set_option linter.unusedSimpArgs false
namespace Go.Proofs.Ytoidlmhebnlnbaa
open Go.ChangeShapes Go.WideShapes Go.ChangeAt Go.RowKit
set_option maxRecDepth 100000

/-- A frame, and where its bytes lie. -/
structure FrX where
  f : Frm
  A : Option Addr
  c : Nat
def frx0 : FrX := ⟨frm0, none, 0⟩
def frCs (x : FrX) : List Value := [.bool x.f.is, .int .i64 x.f.pg, .int .i64 x.f.pins, .bool x.f.dirty, .bool x.f.used, .slice x.A x.f.b.length x.c]
def frFlat (xs : List FrX) : List Value := xs.flatMap frCs
theorem frFlat_len (xs : List FrX) : (frFlat xs).length = xs.length * 6 := by
  unfold frFlat
  induction xs with
  | nil => rfl
  | cons x xs ih => rw [List.flatMap_cons, List.length_append, ih, List.length_cons]; simp [frCs]; omega
theorem frFlat_split (xs : List FrX) (i : Nat) (h : i < xs.length) : frFlat xs = frFlat (xs.take i) ++ (frCs xs[i] ++ frFlat (xs.drop (i + 1))) := by
  unfold frFlat
  have e : xs = xs.take i ++ (xs[i] :: xs.drop (i + 1)) := by rw [List.getElem_cons_drop, List.take_append_drop]
  calc xs.flatMap frCs = (xs.take i ++ (xs[i] :: xs.drop (i + 1))).flatMap frCs := by rw [← e]
    _ = _ := by rw [List.flatMap_append, List.flatMap_cons]
theorem frFlat_takeLen (xs : List FrX) (i : Nat) (h : i ≤ xs.length) : (frFlat (xs.take i)).length = i * 6 := by rw [frFlat_len, List.length_take]; omega
theorem frFlat_get (xs : List FrX) (i : Nat) (h : i < xs.length) (j : Nat) (hj : j < 6) : (frFlat xs)[i * 6 + j]? = (frCs xs[i])[j]? := by
  rw [frFlat_split xs i h, List.getElem?_append_right (by rw [frFlat_takeLen xs i (by omega)]; omega), frFlat_takeLen xs i (by omega), List.getElem?_append_left (by simp [frCs]; omega)]
  congr 1
  omega
theorem frFlat_set (xs : List FrX) (i : Nat) (h : i < xs.length) (x : FrX) : (frFlat xs).take (i * 6) ++ frCs x ++ (frFlat xs).drop (i * 6 + 6) = frFlat (xs.set i x) := by
  have hl := frFlat_takeLen xs i (by omega)
  rw [frFlat_split (xs.set i x) i (by rw [List.length_set]; exact h)]
  have e1 : (xs.set i x).take i = xs.take i := by rw [List.take_set_of_le (Nat.le_refl _)]
  have e2 : (xs.set i x).drop (i + 1) = xs.drop (i + 1) := by rw [List.drop_set_of_lt (by omega)]
  rw [e1, e2, List.getElem_set_self]
  have ht : (frFlat xs).take (i * 6) = frFlat (xs.take i) := by
    rw [frFlat_split xs i h]; exact List.take_left' hl
  have hd : (frFlat xs).drop (i * 6 + 6) = frFlat (xs.drop (i + 1)) := by
    rw [frFlat_split xs i h, ← List.append_assoc]
    exact List.drop_left' (by rw [List.length_append, hl]; rfl)
  rw [ht, hd, List.append_assoc]
theorem frFlat_set1 (xs : List FrX) (i : Nat) (h : i < xs.length) (j : Nat) (hj : j < 6) (v : Value) (x : FrX) (hx : frCs x = (frCs xs[i]).set j v) : (frFlat xs).set (i * 6 + j) v = frFlat (xs.set i x) := by
  rw [← frFlat_set xs i h x, hx]
  apply List.ext_getElem?
  intro k
  have hl := frFlat_len xs
  have h6 : (frCs xs[i]).length = 6 := rfl
  rw [List.getElem?_set]
  by_cases e : i * 6 + j = k
  · subst e
    rw [if_pos rfl, if_pos (by omega), List.append_assoc, List.getElem?_append_right (by rw [List.length_take]; omega), List.length_take, List.getElem?_append_left (by rw [List.length_set, h6]; omega), List.getElem?_set, if_pos (by omega), if_pos (by rw [h6]; omega)]
  · rw [if_neg e]
    by_cases h1 : k < i * 6
    · rw [List.append_assoc, List.getElem?_append_left (by rw [List.length_take]; omega), List.getElem?_take, if_pos h1]
    · by_cases h2 : k < i * 6 + 6
      · rw [List.append_assoc, List.getElem?_append_right (by rw [List.length_take]; omega), List.length_take, List.getElem?_append_left (by rw [List.length_set, h6]; omega), List.getElem?_set, if_neg (by omega), show min (i * 6) (frFlat xs).length = i * 6 by omega, ← frFlat_get xs i h (k - i * 6) (by omega)]
        congr 1
        omega
      · rw [List.getElem?_append_right (by simp only [List.length_append, List.length_take, List.length_set, h6]; omega), List.getElem?_drop]
        congr 1
        simp only [List.length_append, List.length_take, List.length_set, h6]
        omega
/-- A pool. -/
structure Pol (W : World) (F : List Nat) (g n gp gf : Nat) (xs : List FrX) (hand : Nat) (D : DiskSt) : Prop where
  dsk : Dsk W F g n D
  prow : W.heap[gp]? = some (.cells #[.pointer (some ⟨g, 0, none⟩), .slice (some ⟨gf, 0, none⟩) xs.length xs.length, .int .i64 hand] 56 (0, 0))
  frow : W.heap[gf]? = some (.cells (frFlat xs).toArray 63 (0, 0))
  rd : ∀ x ∈ xs, Rd W x.A x.f.b ∧ x.f.b.length ≤ x.c ∧ x.c ≤ maxLen ∧ ∀ ad, x.A = some ad → ad.block < W.heap.size ∧ ad.block ∉ F ∧ ad.block ≠ gp ∧ ad.block ≠ gf
  bd : ∀ x ∈ xs, x.f.b.length ≤ 100000000000
  ne : gp ≠ gf ∧ gp ∉ F ∧ gf ∉ F
  hl : hand < xs.length
  n256 : xs.length ≤ 256
theorem Pol.lt {W : World} {F : List Nat} {g n gp gf : Nat} {xs : List FrX} {hand : Nat} {D : DiskSt} (h : Pol W F g n gp gf xs hand D) : gp < W.heap.size ∧ gf < W.heap.size := ⟨(Array.getElem?_eq_some_iff.1 h.prow).1, (Array.getElem?_eq_some_iff.1 h.frow).1⟩
theorem Pol.fb {W W' : World} {F : List Nat} {g n gp gf : Nat} {xs : List FrX} {hand : Nat} {D : DiskSt} (h : Pol W F g n gp gf xs hand D) (k : FB W W') : Pol W' F g n gp gf xs hand D :=
  ⟨h.dsk.fb k, (k.block _ h.lt.1).trans h.prow, (k.block _ h.lt.2).trans h.frow, fun x hx => ⟨k.rd (h.rd x hx).1, (h.rd x hx).2.1, (h.rd x hx).2.2.1, fun ad ha => ⟨Nat.lt_of_lt_of_le ((h.rd x hx).2.2.2 ad ha).1 k.le, ((h.rd x hx).2.2.2 ad ha).2⟩⟩, h.bd, h.ne, h.hl, h.n256⟩
/-- The disk turns. -/
theorem Pol.disk {W W' : World} {F F' : List Nat} {g n gp gf : Nat} {xs : List FrX} {hand : Nat} {D D' : DiskSt} (h : Pol W F g n gp gf xs hand D) (hd : Dsk W' F' g n D') (hf : ∀ x ∈ F', x ∈ F ∨ W.heap.size ≤ x) (k : TS F W W') : Pol W' F' g n gp gf xs hand D' :=
  have nf : ∀ {b : Nat}, b < W.heap.size → b ∉ F → b ∉ F' := fun {b} h1 h2 hm => by rcases hf b hm with h3 | h3; exact h2 h3; omega
  ⟨hd, (k.block _ h.lt.1 h.ne.2.1).trans h.prow, (k.block _ h.lt.2 h.ne.2.2).trans h.frow, fun x hx => ⟨k.rd (h.rd x hx).1 (fun ad ha => ((h.rd x hx).2.2.2 ad ha).2.1), (h.rd x hx).2.1, (h.rd x hx).2.2.1, fun ad ha => by
    obtain ⟨h1, h2, h3, h4⟩ := (h.rd x hx).2.2.2 ad ha
    exact ⟨Nat.lt_of_lt_of_le h1 k.size, nf h1 h2, h3, h4⟩⟩, h.bd, ⟨h.ne.1, nf h.lt.1 h.ne.2.1, nf h.lt.2 h.ne.2.2⟩, h.hl, h.n256⟩
theorem Pol.diskR {W W' : World} {F : List Nat} {g n gp gf : Nat} {xs : List FrX} {hand : Nat} {D D' : DiskSt} (h : Pol W F g n gp gf xs hand D) (k : DskRes W F g n D' W') : ∃ F', Pol W' F' g n gp gf xs hand D' ∧ (∀ x ∈ F', x ∈ F ∨ W.heap.size ≤ x) ∧ TS F W W' := by
  obtain ⟨F', h1, h2, h3⟩ := k
  exact ⟨F', h.disk h2 h1 h3, h1, h3⟩
/-- A frame is written. -/
theorem Pol.frame {W W' : World} {F : List Nat} {g n gp gf : Nat} {xs : List FrX} {hand : Nat} {D : DiskSt} (h : Pol W F g n gp gf xs hand D) (i : Nat) (x : FrX) (k : TB gf W W')
    (hr : W'.heap[gf]? = some (.cells (frFlat (xs.set i x)).toArray 63 (0, 0))) (hx : Rd W x.A x.f.b ∧ x.f.b.length ≤ x.c ∧ x.c ≤ maxLen ∧ (∀ ad, x.A = some ad → ad.block < W.heap.size ∧ ad.block ∉ F ∧ ad.block ≠ gp ∧ ad.block ≠ gf) ∧ x.f.b.length ≤ 100000000000) : Pol W' F g n gp gf (xs.set i x) hand D := by
  have ks := TS.tb (F := [gf]) k (by simp)
  have hm : ∀ y ∈ xs.set i x, y ∈ xs ∨ y = x := fun y hy => List.mem_or_eq_of_mem_set hy
  have rd : ∀ y : FrX, (Rd W y.A y.f.b ∧ y.f.b.length ≤ y.c ∧ y.c ≤ maxLen ∧ ∀ ad, y.A = some ad → ad.block < W.heap.size ∧ ad.block ∉ F ∧ ad.block ≠ gp ∧ ad.block ≠ gf) → (Rd W' y.A y.f.b ∧ y.f.b.length ≤ y.c ∧ y.c ≤ maxLen ∧ ∀ ad, y.A = some ad → ad.block < W'.heap.size ∧ ad.block ∉ F ∧ ad.block ≠ gp ∧ ad.block ≠ gf) := fun y hy =>
    ⟨ks.rd hy.1 (fun ad ha hm => (hy.2.2.2 ad ha).2.2.2 (by simpa using hm)), hy.2.1, hy.2.2.1, fun ad ha => ⟨Nat.lt_of_lt_of_le (hy.2.2.2 ad ha).1 ks.size, (hy.2.2.2 ad ha).2⟩⟩
  refine ⟨h.dsk.ts ks (fun y hy hm => by simp at hy; subst hy; exact h.ne.2.2 hm), ?_, hr, fun y hy => ?_, fun y hy => ?_, h.ne, by rw [List.length_set]; exact h.hl, by rw [List.length_set]; exact h.n256⟩
  · rw [List.length_set]
    exact (ks.block _ h.lt.1 (by simp; exact h.ne.1)).trans h.prow
  · rcases hm y hy with h1 | rfl
    · exact rd y (h.rd y h1)
    · exact rd y ⟨hx.1, hx.2.1, hx.2.2.1, hx.2.2.2.1⟩
  · rcases hm y hy with h1 | rfl
    · exact h.bd y h1
    · exact hx.2.2.2.2
/-- The hand is moved. -/
theorem Pol.moved {W : World} {F : List Nat} {g n gp gf : Nat} {xs : List FrX} {hand : Nat} {D : DiskSt} (h : Pol W F g n gp gf xs hand D) (k : Nat) (hk : k < xs.length) : Pol (W.setCell ⟨gp, 2, none⟩ (.int .i64 k)) F g n gp gf xs k D := by
  have kb := TB.set (g := gp) W 2 (.int .i64 (k : Int))
  have ks := TS.tb (F := [gp]) kb (by simp)
  refine ⟨h.dsk.ts ks (fun y hy hm => by simp at hy; subst hy; exact h.ne.2.1 hm), ?_, (ks.block _ h.lt.2 (by simp; exact h.ne.1.symm)).trans h.frow, fun y hy => ?_, h.bd, h.ne, hk, h.n256⟩
  · rw [heap_setCell_same _ gp 2 _ _ _ h.prow]; rfl
  · have hq := h.rd y hy
    exact ⟨ks.rd hq.1 (fun ad ha hm => (hq.2.2.2 ad ha).2.2.1 (by simpa using hm)), hq.2.1, hq.2.2.1, fun ad ha => ⟨Nat.lt_of_lt_of_le (hq.2.2.2 ad ha).1 ks.size, (hq.2.2.2 ad ha).2⟩⟩
/-- What a walk is given of a frame: its six cells. -/
theorem Pol.cells {W : World} {F : List Nat} {g n gp gf : Nat} {xs : List FrX} {hand : Nat} {D : DiskSt} (h : Pol W F g n gp gf xs hand D) (i : Nat) (hi : i < xs.length) :
    W.cell? ⟨gf, i * 6, none⟩ = some (.bool xs[i].f.is) ∧ W.cell? ⟨gf, i * 6 + 1, none⟩ = some (.int .i64 xs[i].f.pg) ∧ W.cell? ⟨gf, i * 6 + 2, none⟩ = some (.int .i64 xs[i].f.pins) ∧ W.cell? ⟨gf, i * 6 + 3, none⟩ = some (.bool xs[i].f.dirty) ∧ W.cell? ⟨gf, i * 6 + 4, none⟩ = some (.bool xs[i].f.used) ∧ W.cell? ⟨gf, i * 6 + 5, none⟩ = some (.slice xs[i].A xs[i].f.b.length xs[i].c) := by
  have q := fun (j : Nat) (hj : j < 6) => show W.cell? ⟨gf, i * 6 + j, none⟩ = (frCs xs[i])[j]? from by
    rw [cell_of_row _ _ _ _ _ _ h.frow, List.getElem?_toArray, frFlat_get xs i hi j hj]
  exact ⟨q 0 (by omega), q 1 (by omega), q 2 (by omega), q 3 (by omega), q 4 (by omega), q 5 (by omega)⟩
theorem Pol.set1 {W : World} {F : List Nat} {g n gp gf : Nat} {xs : List FrX} {hand : Nat} {D : DiskSt} (h : Pol W F g n gp gf xs hand D) (i : Nat) (hi : i < xs.length) (j : Nat) (hj : j < 6) (v : Value) (f : Frm) (hx : frCs ⟨f, xs[i].A, xs[i].c⟩ = (frCs xs[i]).set j v) (hb : f.b = xs[i].f.b) :
    Pol (W.setCell ⟨gf, i * 6 + j, none⟩ v) F g n gp gf (xs.set i ⟨f, xs[i].A, xs[i].c⟩) hand D := by
  have hq := h.rd xs[i] (List.getElem_mem hi)
  refine h.frame i _ (TB.set (g := gf) W (i * 6 + j) v) ?_ ⟨by simp only [hb]; exact hq.1, by simp only [hb]; exact hq.2.1, hq.2.2.1, hq.2.2.2, by simp only [hb]; exact h.bd _ (List.getElem_mem hi)⟩
  rw [heap_setCell_same _ gf (i * 6 + j) _ _ _ h.frow, ← frFlat_set1 xs i hi j hj v _ hx]
  simp
/-- What comes of a call: the pool's state, and what may have turned. -/
def PolR (w : World) (F : List Nat) (g n gp gf : Nat) (st : PlSt) (w' : World) : Prop :=
  ∃ F' xs, Pol w' F' g n gp gf xs st.hand st.D ∧ xs.map (·.f) = st.fs ∧ (∀ x ∈ F', x ∈ F ∨ w.heap.size ≤ x) ∧ TS (gp :: gf :: F) w w'
def plOf (xs : List FrX) (hand : Nat) (D : DiskSt) : PlSt := ⟨xs.map (·.f), hand, D⟩
theorem plGetD (xs : List FrX) (i : Nat) (h : i < xs.length) : (xs.map (·.f)).getD i frm0 = xs[i].f := by
  rw [List.getD_eq_getElem?_getD, List.getElem?_map, List.getElem?_eq_getElem h]; rfl
end Go.Proofs.Ytoidlmhebnlnbaa
