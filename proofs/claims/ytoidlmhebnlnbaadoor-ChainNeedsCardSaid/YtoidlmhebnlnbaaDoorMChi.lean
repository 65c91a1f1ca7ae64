/- Walks and laws that the claim's last text stands on, several texts in one file: PlP, PlM, PlA, PlB, PlC. Under the hypotheses that each theorem states. -/
import Derived.Laws.CopyRow
import Derived.WalkMore
import Derived.Test.YtoidlmhebnlnbaaDoorMCha
import Derived.Test.YtoidlmhebnlnbaaDoorMChb
import Derived.Test.YtoidlmhebnlnbaaDoorMChc
import Derived.Test.YtoidlmhebnlnbaaDoorMChd
import Derived.Test.YtoidlmhebnlnbaaDoorMChe
import Derived.Test.YtoidlmhebnlnbaaDoorMChf
import Derived.Test.YtoidlmhebnlnbaaDoorMChg
import Derived.Test.YtoidlmhebnlnbaaDoorMChh
/- pool, plain: its state; what each method does to it. -/
set_option linter.unusedVariables false
set_option linter.unusedSimpArgs false
namespace Go.Proofs.YtoidlmhebnlnbaaDoor

/-- A frame: is there a page; which; pins; dirty; used; its bytes. -/
structure Frm where
  is : Bool
  pg : Int
  pins : Int
  dirty : Bool
  used : Bool
  b : List Byte
def frm0 : Frm := ⟨false, 0, 0, false, false, []⟩
/-- A pool: its frames, its hand, its disk. -/
structure PlSt where
  fs : List Frm
  hand : Nat
  D : DiskSt
def plHas (f : Frm) (n : Int) : Bool := f.is && decide (f.pg = n)
/-- The first frame, from i on, of which it holds. -/
def plIx (q : Frm → Bool) : List Frm → Nat → Option Nat
  | [], _ => none
  | f :: fs, i => if q f then some i else plIx q fs (i + 1)
def plFind (fs : List Frm) (n : Int) : Option Nat := plIx (fun f => plHas f n) fs 0
def plEmpty (fs : List Frm) : Option Nat := plIx (fun f => !f.is) fs 0
/-- A frame is saved, if it is dirty. -/
def plSave (f : Frm) (n : Nat) (D : DiskSt) : Int × Frm × DiskSt :=
  if f.is && f.dirty then (if (sdSave D n f.pg f.b).1 = 0 then (0, { f with dirty := false }, (sdSave D n f.pg f.b).2) else ((sdSave D n f.pg f.b).1, f, (sdSave D n f.pg f.b).2)) else (0, f, D)
def plNext (st : PlSt) : Nat := (st.hand + 1) % st.fs.length
/-- The hand goes round. -/
def plRound (n : Nat) : Nat → PlSt → (Option Nat × Int) × PlSt
  | 0, st => ((none, 9), st)
  | k + 1, st =>
    if 0 < (st.fs.getD st.hand frm0).pins then plRound n k { st with hand := plNext st }
    else if (st.fs.getD st.hand frm0).used then plRound n k { st with fs := st.fs.set st.hand { (st.fs.getD st.hand frm0) with used := false }, hand := plNext st }
    else if (plSave (st.fs.getD st.hand frm0) n st.D).1 = 0 then ((some st.hand, 0), ⟨st.fs.set st.hand frm0, plNext st, (plSave (st.fs.getD st.hand frm0) n st.D).2.2⟩)
    else ((none, (plSave (st.fs.getD st.hand frm0) n st.D).1), { st with D := (plSave (st.fs.getD st.hand frm0) n st.D).2.2 })
def plRoom (n : Nat) (st : PlSt) : (Option Nat × Int) × PlSt :=
  match plEmpty st.fs with
  | some i => ((some i, 0), st)
  | none => plRound n (2 * st.fs.length) st
theorem plIx_some {q : Frm → Bool} : ∀ {fs : List Frm} {i k : Nat}, plIx q fs i = some k → i ≤ k ∧ k < i + fs.length ∧ q (fs.getD (k - i) frm0) = true := by
  intro fs
  induction fs with
  | nil => intro i k h; cases h
  | cons f fs ih =>
    intro i k h
    rw [plIx] at h
    split at h
    · cases h
      rename_i hq
      refine ⟨Nat.le_refl _, by simp, ?_⟩
      rw [Nat.sub_self]; exact hq
    · obtain ⟨h1, h2, h3⟩ := ih h
      refine ⟨by omega, by simp only [List.length_cons]; omega, ?_⟩
      rw [show k - i = (k - (i + 1)) + 1 by omega, List.getD_cons_succ]; exact h3
theorem plIx_none {q : Frm → Bool} : ∀ {fs : List Frm} {i : Nat}, plIx q fs i = none → ∀ f ∈ fs, q f = false := by
  intro fs
  induction fs with
  | nil => intro i h f hf; cases hf
  | cons g fs ih =>
    intro i h f hf
    rw [plIx] at h
    split at h
    · cases h
    · rename_i hq
      rcases List.mem_cons.1 hf with rfl | hf
      · simpa using hq
      · exact ih h f hf
/-- While it is looked for: the first j frames are not it. -/
theorem plIx_drop {q : Frm → Bool} {fs : List Frm} {j : Nat} (hj : j < fs.length) (i : Nat) : plIx q (fs.drop j) i = if q fs[j] then some i else plIx q (fs.drop (j + 1)) (i + 1) := by
  rw [List.drop_eq_getElem_cons hj, plIx]
/-- A page is got: its frame. -/
def plGet (n : Nat) (st : PlSt) (k : Int) : (Option Nat × Int) × PlSt :=
  if pgOut n k then ((none, 2), st) else
  match plFind st.fs k with
  | some i => ((some i, 0), { st with fs := st.fs.set i { (st.fs.getD i frm0) with used := true } })
  | none =>
    match plRoom n st with
    | ((some i, _), st1) =>
      if (sdLoad st1.D n k).2.1 = 0 then ((some i, 0), ⟨st1.fs.set i ⟨true, k, 0, false, true, (sdLoad st1.D n k).1⟩, st1.hand, (sdLoad st1.D n k).2.2⟩)
      else ((none, (sdLoad st1.D n k).2.1), { st1 with D := (sdLoad st1.D n k).2.2 })
    | ((none, e), st1) => ((none, e), st1)
def plPut (n : Nat) (st : PlSt) (k : Int) (xs : List Byte) : Int × PlSt :=
  if pgOut n k ∨ xs.length ≠ 4096 then (2, st) else
  match plFind st.fs k with
  | some i => (0, { st with fs := st.fs.set i { (st.fs.getD i frm0) with b := xs, dirty := true, used := true } })
  | none =>
    match plRoom n st with
    | ((some i, _), st1) => (0, { st1 with fs := st1.fs.set i ⟨true, k, 0, true, true, xs⟩ })
    | ((none, e), st1) => (e, st1)
def plPin (n : Nat) (st : PlSt) (k : Int) : Int × PlSt :=
  match plGet n st k with
  | ((some i, e), st1) => (e, { st1 with fs := st1.fs.set i { (st1.fs.getD i frm0) with pins := IntKind.i64.wrap ((st1.fs.getD i frm0).pins + 1) } })
  | ((none, e), st1) => (e, st1)
def plUnpin (st : PlSt) (k : Int) : Int × PlSt :=
  match plFind st.fs k with
  | some i => if (st.fs.getD i frm0).pins = 0 then (6, st) else (0, { st with fs := st.fs.set i { (st.fs.getD i frm0) with pins := IntKind.i64.wrap ((st.fs.getD i frm0).pins - 1) } })
  | none => (6, st)
def plEvict (n : Nat) (st : PlSt) (i : Int) : Int × PlSt :=
  if i < 0 ∨ (st.fs.length : Int) ≤ i then (2, st)
  else if !(st.fs.getD i.toNat frm0).is || decide (0 < (st.fs.getD i.toNat frm0).pins) then (6, st)
  else if (plSave (st.fs.getD i.toNat frm0) n st.D).1 = 0 then (0, { st with fs := st.fs.set i.toNat frm0, D := (plSave (st.fs.getD i.toNat frm0) n st.D).2.2 })
  else ((plSave (st.fs.getD i.toNat frm0) n st.D).1, { st with D := (plSave (st.fs.getD i.toNat frm0) n st.D).2.2 })
def plDrop (n : Nat) (st : PlSt) (k : Int) : Int × PlSt :=
  if pgOut n k then (2, st) else
  match plFind st.fs k with
  | some i => (0, { st with fs := st.fs.set i frm0 })
  | none => (0, st)
/-- The frames from i on are saved. -/
def plCleanF (n : Nat) : Nat → Nat → PlSt → Int × PlSt
  | 0, _, st => (0, st)
  | r + 1, i, st =>
    if (plSave (st.fs.getD i frm0) n st.D).1 = 0 then plCleanF n r (i + 1) { st with fs := st.fs.set i (plSave (st.fs.getD i frm0) n st.D).2.1, D := (plSave (st.fs.getD i frm0) n st.D).2.2 }
    else ((plSave (st.fs.getD i frm0) n st.D).1, { st with D := (plSave (st.fs.getD i frm0) n st.D).2.2 })
def plClean (n : Nat) (st : PlSt) : Int × PlSt := plCleanF n st.fs.length 0 st
end Go.Proofs.YtoidlmhebnlnbaaDoor
/- pool: how it lies. -/
set_option linter.unusedVariables false
set_option linter.unusedSimpArgs false
namespace Go.Proofs.YtoidlmhebnlnbaaDoor
open Go.ChangeShapes Go.WideShapes Go.ChangeAt Go.RowKit
set_option maxRecDepth 100000

/-- A frame, and where its bytes lie. -/
structure FrX where
  f : Frm
  A : Option Addr
  c : Nat
def frx0 : FrX := ⟨frm0, none, 0⟩
def frCs (x : FrX) : List Value := [.bool x.f.is, .int .i64 x.f.pg, .int .i64 x.f.pins, .bool x.f.dirty, .bool x.f.used, .slice x.A x.f.b.length x.c]
def frFlat (xs : List FrX) : List Value := xs.flatMap frCs
theorem frFlat_len (xs : List FrX) : (frFlat xs).length = xs.length * 6 := by
  unfold frFlat
  induction xs with
  | nil => rfl
  | cons x xs ih => rw [List.flatMap_cons, List.length_append, ih, List.length_cons]; simp [frCs]; omega
theorem frFlat_split (xs : List FrX) (i : Nat) (h : i < xs.length) : frFlat xs = frFlat (xs.take i) ++ (frCs xs[i] ++ frFlat (xs.drop (i + 1))) := by
  unfold frFlat
  have e : xs = xs.take i ++ (xs[i] :: xs.drop (i + 1)) := by rw [List.getElem_cons_drop, List.take_append_drop]
  calc xs.flatMap frCs = (xs.take i ++ (xs[i] :: xs.drop (i + 1))).flatMap frCs := by rw [← e]
    _ = _ := by rw [List.flatMap_append, List.flatMap_cons]
theorem frFlat_takeLen (xs : List FrX) (i : Nat) (h : i ≤ xs.length) : (frFlat (xs.take i)).length = i * 6 := by rw [frFlat_len, List.length_take]; omega
theorem frFlat_get (xs : List FrX) (i : Nat) (h : i < xs.length) (j : Nat) (hj : j < 6) : (frFlat xs)[i * 6 + j]? = (frCs xs[i])[j]? := by
  rw [frFlat_split xs i h, List.getElem?_append_right (by rw [frFlat_takeLen xs i (by omega)]; omega), frFlat_takeLen xs i (by omega), List.getElem?_append_left (by simp [frCs]; omega)]
  congr 1
  omega
theorem frFlat_set (xs : List FrX) (i : Nat) (h : i < xs.length) (x : FrX) : (frFlat xs).take (i * 6) ++ frCs x ++ (frFlat xs).drop (i * 6 + 6) = frFlat (xs.set i x) := by
  have hl := frFlat_takeLen xs i (by omega)
  rw [frFlat_split (xs.set i x) i (by rw [List.length_set]; exact h)]
  have e1 : (xs.set i x).take i = xs.take i := by rw [List.take_set_of_le (Nat.le_refl _)]
  have e2 : (xs.set i x).drop (i + 1) = xs.drop (i + 1) := by rw [List.drop_set_of_lt (by omega)]
  rw [e1, e2, List.getElem_set_self]
  have ht : (frFlat xs).take (i * 6) = frFlat (xs.take i) := by
    rw [frFlat_split xs i h]; exact List.take_left' hl
  have hd : (frFlat xs).drop (i * 6 + 6) = frFlat (xs.drop (i + 1)) := by
    rw [frFlat_split xs i h, ← List.append_assoc]
    exact List.drop_left' (by rw [List.length_append, hl]; rfl)
  rw [ht, hd, List.append_assoc]
theorem frFlat_set1 (xs : List FrX) (i : Nat) (h : i < xs.length) (j : Nat) (hj : j < 6) (v : Value) (x : FrX) (hx : frCs x = (frCs xs[i]).set j v) : (frFlat xs).set (i * 6 + j) v = frFlat (xs.set i x) := by
  rw [← frFlat_set xs i h x, hx]
  apply List.ext_getElem?
  intro k
  have hl := frFlat_len xs
  have h6 : (frCs xs[i]).length = 6 := rfl
  rw [List.getElem?_set]
  by_cases e : i * 6 + j = k
  · subst e
    rw [if_pos rfl, if_pos (by omega), List.append_assoc, List.getElem?_append_right (by rw [List.length_take]; omega), List.length_take, List.getElem?_append_left (by rw [List.length_set, h6]; omega), List.getElem?_set, if_pos (by omega), if_pos (by rw [h6]; omega)]
  · rw [if_neg e]
    by_cases h1 : k < i * 6
    · rw [List.append_assoc, List.getElem?_append_left (by rw [List.length_take]; omega), List.getElem?_take, if_pos h1]
    · by_cases h2 : k < i * 6 + 6
      · rw [List.append_assoc, List.getElem?_append_right (by rw [List.length_take]; omega), List.length_take, List.getElem?_append_left (by rw [List.length_set, h6]; omega), List.getElem?_set, if_neg (by omega), show min (i * 6) (frFlat xs).length = i * 6 by omega, ← frFlat_get xs i h (k - i * 6) (by omega)]
        congr 1
        omega
      · rw [List.getElem?_append_right (by simp only [List.length_append, List.length_take, List.length_set, h6]; omega), List.getElem?_drop]
        congr 1
        simp only [List.length_append, List.length_take, List.length_set, h6]
        omega
/-- A pool; G: blocks that are none of its frames' rows. -/
structure Pol (W : World) (F G : List Nat) (g n gp gf : Nat) (xs : List FrX) (hand : Nat) (D : DiskSt) : Prop where
  dsk : Dsk W F g n D
  prow : W.heap[gp]? = some (.cells #[.pointer (some ⟨g, 0, none⟩), .slice (some ⟨gf, 0, none⟩) xs.length xs.length, .int .i64 hand] 76 (0, 0))
  frow : W.heap[gf]? = some (.cells (frFlat xs).toArray 85 (0, 0))
  rd : ∀ x ∈ xs, Rd W x.A x.f.b ∧ x.f.b.length ≤ x.c ∧ x.c ≤ maxLen ∧ ∀ ad, x.A = some ad → ad.block < W.heap.size ∧ ad.block ∉ F ∧ ad.block ≠ gp ∧ ad.block ≠ gf ∧ ad.block ∉ G
  bd : ∀ x ∈ xs, x.f.b.length ≤ 100000000000
  ne : gp ≠ gf ∧ gp ∉ F ∧ gf ∉ F
  hl : hand < xs.length
  n256 : xs.length ≤ 256
  glt : ∀ b ∈ G, b < W.heap.size
theorem Pol.lt {W : World} {F G : List Nat} {g n gp gf : Nat} {xs : List FrX} {hand : Nat} {D : DiskSt} (h : Pol W F G g n gp gf xs hand D) : gp < W.heap.size ∧ gf < W.heap.size := ⟨(Array.getElem?_eq_some_iff.1 h.prow).1, (Array.getElem?_eq_some_iff.1 h.frow).1⟩
theorem Pol.fb {W W' : World} {F G : List Nat} {g n gp gf : Nat} {xs : List FrX} {hand : Nat} {D : DiskSt} (h : Pol W F G g n gp gf xs hand D) (k : FB W W') : Pol W' F G g n gp gf xs hand D :=
  ⟨h.dsk.fb k, (k.block _ h.lt.1).trans h.prow, (k.block _ h.lt.2).trans h.frow, fun x hx => ⟨k.rd (h.rd x hx).1, (h.rd x hx).2.1, (h.rd x hx).2.2.1, fun ad ha => ⟨Nat.lt_of_lt_of_le ((h.rd x hx).2.2.2 ad ha).1 k.le, ((h.rd x hx).2.2.2 ad ha).2⟩⟩, h.bd, h.ne, h.hl, h.n256, fun b hb => Nat.lt_of_lt_of_le (h.glt b hb) k.le⟩
/-- Other blocks are none of its rows: fewer ones, or such as are none of them for a reason. -/
theorem Pol.blocks {W : World} {F G G' : List Nat} {g n gp gf : Nat} {xs : List FrX} {hand : Nat} {D : DiskSt} (h : Pol W F G g n gp gf xs hand D) (hl : ∀ b ∈ G', b < W.heap.size) (hn : ∀ b ∈ G', b ∈ G ∨ ∀ x ∈ xs, ∀ ad, x.A = some ad → ad.block ≠ b) : Pol W F G' g n gp gf xs hand D :=
  ⟨h.dsk, h.prow, h.frow, fun x hx => ⟨(h.rd x hx).1, (h.rd x hx).2.1, (h.rd x hx).2.2.1, fun ad ha => by
    obtain ⟨h1, h2, h3, h4, h5⟩ := (h.rd x hx).2.2.2 ad ha
    exact ⟨h1, h2, h3, h4, fun hm => (hn _ hm).elim h5 (fun k => k x hx ad ha rfl)⟩⟩, h.bd, h.ne, h.hl, h.n256, hl⟩
/-- The disk turns. -/
theorem Pol.disk {W W' : World} {F F' G : List Nat} {g n gp gf : Nat} {xs : List FrX} {hand : Nat} {D D' : DiskSt} (h : Pol W F G g n gp gf xs hand D) (hd : Dsk W' F' g n D') (hf : ∀ x ∈ F', x ∈ F ∨ W.heap.size ≤ x) (k : TS F W W') : Pol W' F' G g n gp gf xs hand D' :=
  have nf : ∀ {b : Nat}, b < W.heap.size → b ∉ F → b ∉ F' := fun {b} h1 h2 hm => by rcases hf b hm with h3 | h3; exact h2 h3; omega
  ⟨hd, (k.block _ h.lt.1 h.ne.2.1).trans h.prow, (k.block _ h.lt.2 h.ne.2.2).trans h.frow, fun x hx => ⟨k.rd (h.rd x hx).1 (fun ad ha => ((h.rd x hx).2.2.2 ad ha).2.1), (h.rd x hx).2.1, (h.rd x hx).2.2.1, fun ad ha => by
    obtain ⟨h1, h2, h3, h4⟩ := (h.rd x hx).2.2.2 ad ha
    exact ⟨Nat.lt_of_lt_of_le h1 k.size, nf h1 h2, h3, h4⟩⟩, h.bd, ⟨h.ne.1, nf h.lt.1 h.ne.2.1, nf h.lt.2 h.ne.2.2⟩, h.hl, h.n256, fun b hb => Nat.lt_of_lt_of_le (h.glt b hb) k.size⟩
theorem Pol.diskR {W W' : World} {F G : List Nat} {g n gp gf : Nat} {xs : List FrX} {hand : Nat} {D D' : DiskSt} (h : Pol W F G g n gp gf xs hand D) (k : DskRes W F g n D' W') : ∃ F', Pol W' F' G g n gp gf xs hand D' ∧ (∀ x ∈ F', x ∈ F ∨ W.heap.size ≤ x) ∧ TS F W W' := by
  obtain ⟨F', h1, h2, h3⟩ := k
  exact ⟨F', h.disk h2 h1 h3, h1, h3⟩
/-- A frame is written. -/
theorem Pol.frame {W W' : World} {F G : List Nat} {g n gp gf : Nat} {xs : List FrX} {hand : Nat} {D : DiskSt} (h : Pol W F G g n gp gf xs hand D) (i : Nat) (x : FrX) (k : TB gf W W')
    (hr : W'.heap[gf]? = some (.cells (frFlat (xs.set i x)).toArray 85 (0, 0))) (hx : Rd W x.A x.f.b ∧ x.f.b.length ≤ x.c ∧ x.c ≤ maxLen ∧ (∀ ad, x.A = some ad → ad.block < W.heap.size ∧ ad.block ∉ F ∧ ad.block ≠ gp ∧ ad.block ≠ gf ∧ ad.block ∉ G) ∧ x.f.b.length ≤ 100000000000) : Pol W' F G g n gp gf (xs.set i x) hand D := by
  have ks := TS.tb (F := [gf]) k (by simp)
  have hm : ∀ y ∈ xs.set i x, y ∈ xs ∨ y = x := fun y hy => List.mem_or_eq_of_mem_set hy
  have rd : ∀ y : FrX, (Rd W y.A y.f.b ∧ y.f.b.length ≤ y.c ∧ y.c ≤ maxLen ∧ ∀ ad, y.A = some ad → ad.block < W.heap.size ∧ ad.block ∉ F ∧ ad.block ≠ gp ∧ ad.block ≠ gf ∧ ad.block ∉ G) → (Rd W' y.A y.f.b ∧ y.f.b.length ≤ y.c ∧ y.c ≤ maxLen ∧ ∀ ad, y.A = some ad → ad.block < W'.heap.size ∧ ad.block ∉ F ∧ ad.block ≠ gp ∧ ad.block ≠ gf ∧ ad.block ∉ G) := fun y hy =>
    ⟨ks.rd hy.1 (fun ad ha hm => (hy.2.2.2 ad ha).2.2.2.1 (by simpa using hm)), hy.2.1, hy.2.2.1, fun ad ha => ⟨Nat.lt_of_lt_of_le (hy.2.2.2 ad ha).1 ks.size, (hy.2.2.2 ad ha).2⟩⟩
  refine ⟨h.dsk.ts ks (fun y hy hm => by simp at hy; subst hy; exact h.ne.2.2 hm), ?_, hr, fun y hy => ?_, fun y hy => ?_, h.ne, by rw [List.length_set]; exact h.hl, by rw [List.length_set]; exact h.n256, fun b hb => Nat.lt_of_lt_of_le (h.glt b hb) ks.size⟩
  · rw [List.length_set]
    exact (ks.block _ h.lt.1 (by simp; exact h.ne.1)).trans h.prow
  · rcases hm y hy with h1 | rfl
    · exact rd y (h.rd y h1)
    · exact rd y ⟨hx.1, hx.2.1, hx.2.2.1, hx.2.2.2.1⟩
  · rcases hm y hy with h1 | rfl
    · exact h.bd y h1
    · exact hx.2.2.2.2
/-- The hand is moved. -/
theorem Pol.moved {W : World} {F G : List Nat} {g n gp gf : Nat} {xs : List FrX} {hand : Nat} {D : DiskSt} (h : Pol W F G g n gp gf xs hand D) (k : Nat) (hk : k < xs.length) : Pol (W.setCell ⟨gp, 2, none⟩ (.int .i64 k)) F G g n gp gf xs k D := by
  have kb := TB.set (g := gp) W 2 (.int .i64 (k : Int))
  have ks := TS.tb (F := [gp]) kb (by simp)
  refine ⟨h.dsk.ts ks (fun y hy hm => by simp at hy; subst hy; exact h.ne.2.1 hm), ?_, (ks.block _ h.lt.2 (by simp; exact h.ne.1.symm)).trans h.frow, fun y hy => ?_, h.bd, h.ne, hk, h.n256, fun b hb => Nat.lt_of_lt_of_le (h.glt b hb) ks.size⟩
  · rw [heap_setCell_same _ gp 2 _ _ _ h.prow]; rfl
  · have hq := h.rd y hy
    exact ⟨ks.rd hq.1 (fun ad ha hm => (hq.2.2.2 ad ha).2.2.1 (by simpa using hm)), hq.2.1, hq.2.2.1, fun ad ha => ⟨Nat.lt_of_lt_of_le (hq.2.2.2 ad ha).1 ks.size, (hq.2.2.2 ad ha).2⟩⟩
/-- What a walk is given of a frame: its six cells. -/
theorem Pol.cells {W : World} {F G : List Nat} {g n gp gf : Nat} {xs : List FrX} {hand : Nat} {D : DiskSt} (h : Pol W F G g n gp gf xs hand D) (i : Nat) (hi : i < xs.length) :
    W.cell? ⟨gf, i * 6, none⟩ = some (.bool xs[i].f.is) ∧ W.cell? ⟨gf, i * 6 + 1, none⟩ = some (.int .i64 xs[i].f.pg) ∧ W.cell? ⟨gf, i * 6 + 2, none⟩ = some (.int .i64 xs[i].f.pins) ∧ W.cell? ⟨gf, i * 6 + 3, none⟩ = some (.bool xs[i].f.dirty) ∧ W.cell? ⟨gf, i * 6 + 4, none⟩ = some (.bool xs[i].f.used) ∧ W.cell? ⟨gf, i * 6 + 5, none⟩ = some (.slice xs[i].A xs[i].f.b.length xs[i].c) := by
  have q := fun (j : Nat) (hj : j < 6) => show W.cell? ⟨gf, i * 6 + j, none⟩ = (frCs xs[i])[j]? from by
    rw [cell_of_row _ _ _ _ _ _ h.frow, List.getElem?_toArray, frFlat_get xs i hi j hj]
  exact ⟨q 0 (by omega), q 1 (by omega), q 2 (by omega), q 3 (by omega), q 4 (by omega), q 5 (by omega)⟩
theorem Pol.set1 {W : World} {F G : List Nat} {g n gp gf : Nat} {xs : List FrX} {hand : Nat} {D : DiskSt} (h : Pol W F G g n gp gf xs hand D) (i : Nat) (hi : i < xs.length) (j : Nat) (hj : j < 6) (v : Value) (f : Frm) (hx : frCs ⟨f, xs[i].A, xs[i].c⟩ = (frCs xs[i]).set j v) (hb : f.b = xs[i].f.b) :
    Pol (W.setCell ⟨gf, i * 6 + j, none⟩ v) F G g n gp gf (xs.set i ⟨f, xs[i].A, xs[i].c⟩) hand D := by
  have hq := h.rd xs[i] (List.getElem_mem hi)
  refine h.frame i _ (TB.set (g := gf) W (i * 6 + j) v) ?_ ⟨by simp only [hb]; exact hq.1, by simp only [hb]; exact hq.2.1, hq.2.2.1, hq.2.2.2, by simp only [hb]; exact h.bd _ (List.getElem_mem hi)⟩
  rw [heap_setCell_same _ gf (i * 6 + j) _ _ _ h.frow, ← frFlat_set1 xs i hi j hj v _ hx]
  simp
/-- What comes of a call: the pool's state, and what may have turned. -/
def PolR (w : World) (F G : List Nat) (g n gp gf : Nat) (st : PlSt) (w' : World) : Prop :=
  ∃ F' xs, Pol w' F' G g n gp gf xs st.hand st.D ∧ xs.map (·.f) = st.fs ∧ (∀ x ∈ F', x ∈ F ∨ w.heap.size ≤ x) ∧ TS (gp :: gf :: F) w w'
def plOf (xs : List FrX) (hand : Nat) (D : DiskSt) : PlSt := ⟨xs.map (·.f), hand, D⟩
theorem plGetD (xs : List FrX) (i : Nat) (h : i < xs.length) : (xs.map (·.f)).getD i frm0 = xs[i].f := by
  rw [List.getD_eq_getElem?_getD, List.getElem?_map, List.getElem?_eq_getElem h]; rfl
end Go.Proofs.YtoidlmhebnlnbaaDoor
/- pool: the walks through made, right, find, save. -/
set_option linter.unusedVariables false
set_option linter.unusedSimpArgs false
namespace Go.Proofs.YtoidlmhebnlnbaaDoor
open Go.ChangeShapes Go.WideShapes Go.ChangeAt Go.RowKit
attribute [local go_sem] nb_nonneg nb_lt8 nb_lt64
set_option maxRecDepth 100000

section
variable {w : World} {F G : List Nat} {g n gp gf hand : Nat} {xs : List FrX} {D : DiskSt}
theorem Pol.pcells (h : Pol w F G g n gp gf xs hand D) : w.cell? ⟨gp, 0, none⟩ = some (.pointer (some ⟨g, 0, none⟩)) ∧ w.cell? ⟨gp, 1, none⟩ = some (.slice (some ⟨gf, 0, none⟩) xs.length xs.length) ∧ w.cell? ⟨gp, 2, none⟩ = some (.int .i64 hand) := by
  refine ⟨?_, ?_, ?_⟩ <;> (rw [cell_of_row _ _ _ _ _ _ h.prow]; rfl)
set_option maxHeartbeats 400000 in
theorem pl_made (h : Pol w F G g n gp gf xs hand D) :
    Calls Tryd.prog 33 #[.pointer (some ⟨gp, 0, none⟩)] w fun e w' => e = .returned (.bool true) ∧ w = w' := by
  obtain ⟨p0, p1, p2⟩ := h.pcells
  clear h
  go_enter Tryd.func33, Tryd.ntmps33
  go_wp2
  go_ret
  exact ⟨rfl, rfl⟩
set_option maxHeartbeats 400000 in
theorem pl_right (h : Pol w F G g n gp gf xs hand D) (k : Int) :
    Calls Tryd.prog 34 #[.pointer (some ⟨gp, 0, none⟩), .int .i64 k] w fun e w' => e = .returned (.bool (!decide (pgOut n k))) ∧ w = w' := by
  obtain ⟨p0, p1, p2⟩ := h.pcells
  have HP := Lib.hid (pg_Pages h.dsk)
  by_cases h1 : k < 0
  · have HR := Lib.hid (decide_eq_true (show pgOut n k from .inl h1))
    have h2 : ¬ 0 ≤ k := by omega
    clear h HP
    go_enter Tryd.func34, Tryd.ntmps34
    go_wp2
    go_ret
    exact ⟨by rw [HR.out]; rfl, rfl⟩
  · have h2 : 0 ≤ k := by omega
    have HG := Lib.hid (show decide (pgOut n k) = decide (((n / 8 : Nat) : Int) ≤ k) from by unfold pgOut; by_cases hh : ((n / 8 : Nat) : Int) ≤ k <;> simp [hh, h1])
    generalize n / 8 = m at *
    clear h h1
    by_cases h3 : k < (m : Int)
    · have HR := Lib.hid (show decide (pgOut n k) = false from by rw [HG.out]; exact decide_eq_false (by omega))
      go_enter Tryd.func34, Tryd.ntmps34
      go_wp2_with fail
      refine HP.out.mono ?_
      rintro e w1 ⟨rfl, rfl⟩
      go_wp2
      go_ret
      first | exact ⟨by rw [HR.out]; rfl, rfl⟩ | exact ⟨by rw [HR.out]; simp [h3], rfl⟩
    · have HR := Lib.hid (show decide (pgOut n k) = true from by rw [HG.out]; exact decide_eq_true (by omega))
      go_enter Tryd.func34, Tryd.ntmps34
      go_wp2_with fail
      refine HP.out.mono ?_
      rintro e w1 ⟨rfl, rfl⟩
      have hd : decide (k < (m : Int)) = false := decide_eq_false (by omega)
      go_wp2
      go_ret
      first | exact ⟨by rw [HR.out]; rfl, rfl⟩ | exact ⟨by rw [HR.out]; simp [h3], rfl⟩
/-- A frame, as a pointer. -/
def plPtr (gf : Nat) : Option Nat → Value
  | some i => .pointer (some ⟨gf, i * 6, none⟩)
  | none => .pointer none
set_option maxHeartbeats 1000000 in
theorem pl_find (h : Pol w F G g n gp gf xs hand D) (k : Int) :
    Calls Tryd.prog 35 #[.pointer (some ⟨gp, 0, none⟩), .int .i64 k] w fun e w' => e = .returned (plPtr gf (plFind (xs.map (·.f)) k)) ∧ w = w' := by
  obtain ⟨p0, p1, p2⟩ := h.pcells
  have H := Lib.hid h
  have HN := Lib.hid h.n256
  obtain ⟨R, hR⟩ : ∃ R, R = plFind (xs.map (·.f)) k := ⟨_, rfl⟩
  rw [← hR]
  have HR := Lib.hid hR
  clear h hR
  go_enter Tryd.func35, Tryd.ntmps35
  go_wp2_with fail
  go_loop [5, 6, 12] (fun _ _ i => ∃ j : Nat, j ≤ xs.length ∧ i = .int .i64 j ∧ Hid (R = plIx (fun f => plHas f k) ((xs.map (·.f)).drop j) j)) (fun _ _ i => xs.length - (intOf i).toNat)
  case atStart => exact ⟨0, by omega, rfl, HR⟩
  case round =>
    obtain ⟨j, hj, rfl, HX⟩ := hrel
    by_cases hlt : j < xs.length
    · have hz : (j : Int) < (xs.length : Int) := by omega
      obtain ⟨c0, c1, c2, c3, c4, c5⟩ := H.out.cells j hlt
      have hx := HX.out
      rw [plIx_drop (by rw [List.length_map]; exact hlt), List.getElem_map] at hx
      generalize xs[j] = x at *
      obtain ⟨⟨is, pg, pins, dirty, used, b⟩, A, c⟩ := x
      simp only at c0 c1 c2 c3 c4 c5
      unfold plHas at hx
      simp only at hx
      have HJ := Lib.hid hlt
      have hwk : IntKind.i64.wrap ((j : Int) + 1) = (j : Int) + 1 := by rw [IntKind.wrap_i64]; have := HN.out; omega
      cases is with
      | false =>
        have HX2 := Lib.hid (hx.trans (by rw [if_neg (by simp)]))
        clear hx HX hlt hj
        go_wp2
        go_round
        case rel => exact ⟨j + 1, by have := HJ.out; omega, by go_num, HX2⟩
        case measure => (show xs.length - ((j : Int) + 1).toNat < xs.length - ((j : Int)).toNat; have := HJ.out; omega)
      | true =>
        by_cases hk : pg = k
        · have hkb : (pg == k) = true := by simpa using hk
          have HX2 := Lib.hid (hx.trans (by rw [if_pos (by simp [hk])]))
          clear hx HX hlt hj hk
          go_wp2
          go_ret
          exact ⟨by rw [HX2.out]; rfl, rfl⟩
        · have hkb : (pg == k) = false := by simpa using hk
          have HX2 := Lib.hid (hx.trans (by rw [if_neg (by simp [hk])]))
          clear hx HX hlt hj hk
          go_wp2
          go_round
          case rel => exact ⟨j + 1, by have := HJ.out; omega, by go_num, HX2⟩
          case measure => (show xs.length - ((j : Int) + 1).toNat < xs.length - ((j : Int)).toNat; have := HJ.out; omega)
    · have hz : ¬ (j : Int) < (xs.length : Int) := by omega
      have HX2 := Lib.hid (show R = none from by have := HX.out; rw [List.drop_of_length_le (by rw [List.length_map]; omega)] at this; exact this)
      clear HX hlt
      go_wp2
      go_ret
      exact ⟨by rw [HX2.out]; rfl, rfl⟩
end
end Go.Proofs.YtoidlmhebnlnbaaDoor
/- pool: the walk through save. -/
set_option linter.unusedVariables false
set_option linter.unusedSimpArgs false
namespace Go.Proofs.YtoidlmhebnlnbaaDoor
open Go.ChangeShapes Go.WideShapes Go.ChangeAt Go.RowKit
attribute [local go_sem] nb_nonneg nb_lt8 nb_lt64
set_option maxRecDepth 100000

theorem TS.more {F F' : List Nat} {w w' : World} (h : TS F w w') (hs : ∀ x ∈ F, x ∈ F') : TS F' w w' := ⟨h.os, h.tape, h.output, h.size, fun k hk hn => h.block k hk (fun m => hn (hs k m))⟩
section
variable {w : World} {F G : List Nat} {g n gp gf hand : Nat} {xs : List FrX} {D : DiskSt}
/-- What is returned of a save: the frame may be clean now. -/
def plSaved (xs : List FrX) (i : Nat) (hi : i < xs.length) (n : Nat) (D : DiskSt) : List FrX := xs.set i ⟨(plSave xs[i].f n D).2.1, xs[i].A, xs[i].c⟩
theorem plSave_b (f : Frm) (n : Nat) (D : DiskSt) : (plSave f n D).2.1.b = f.b := by
  unfold plSave
  split
  · split <;> rfl
  · rfl
theorem plSave_off (f : Frm) (n : Nat) (D : DiskSt) (h : (plSave f n D).1 ≠ 0) : (plSave f n D).2.1 = f := by
  unfold plSave at h ⊢
  split at h
  · rename_i hc
    rw [if_pos hc]
    split at h
    · exact absurd rfl h
    · rename_i hs; rw [if_neg hs]
  · exact absurd rfl h
theorem set_getElem_self' (xs : List FrX) (i : Nat) (hi : i < xs.length) : xs.set i xs[i] = xs := List.set_getElem_self hi
set_option maxHeartbeats 1000000 in
theorem pl_save (h : Pol w F G g n gp gf xs hand D) (i : Nat) (hi : i < xs.length) :
    Calls Tryd.prog 40 #[.pointer (some ⟨gp, 0, none⟩), .pointer (some ⟨gf, i * 6, none⟩)] w fun e w' => e = .returned (.int .i64 (plSave xs[i].f n D).1) ∧
      ∃ F', Pol w' F' G g n gp gf (plSaved xs i hi n D) hand (plSave xs[i].f n D).2.2 ∧ (∀ x ∈ F', x ∈ F ∨ w.heap.size ≤ x) ∧ TS (gf :: F) w w' := by
  obtain ⟨p0, p1, p2⟩ := h.pcells
  obtain ⟨c0, c1, c2, c3, c4, c5⟩ := h.cells i hi
  have H := Lib.hid h
  have HS := Lib.hid (show plSaved xs i hi n D = xs.set i ⟨(plSave xs[i].f n D).2.1, xs[i].A, xs[i].c⟩ from rfl)
  have HSF := Lib.hid (List.set_getElem_self hi)
  have HXD := Lib.hid (h.rd xs[i] (List.getElem_mem hi))
  have HXB := Lib.hid (h.bd xs[i] (List.getElem_mem hi))
  have HS1 := Lib.hid (fun (W : World) (F' : List Nat) (D' : DiskSt) (h' : Pol W F' G g n gp gf xs hand D') (f : Frm) (hx : frCs ⟨f, xs[i].A, xs[i].c⟩ = (frCs xs[i]).set 3 (.bool false)) (hb : f.b = xs[i].f.b) => h'.set1 i hi 3 (by omega) (.bool false) f hx hb)
  have HFZ := Lib.hid (fun (W : World) (F' : List Nat) (D' : DiskSt) (h' : Pol W F' G g n gp gf xs hand D') => And.intro (h'.cells i hi).2.2.2.1 (frozen_row _ h'.frow (i * 6 + 3)))
  generalize plSaved xs i hi n D = ys at *
  generalize hx : xs[i] = x at *
  obtain ⟨⟨is, pg, pins, dirty, used, b⟩, A, c⟩ := x
  simp only at c0 c1 c2 c3 c4 c5
  clear h hx
  cases is with
  | false =>
    have HR := Lib.hid (show plSave ⟨false, pg, pins, dirty, used, b⟩ n D = (0, ⟨false, pg, pins, dirty, used, b⟩, D) from rfl)
    go_enter Tryd.func40, Tryd.ntmps40
    go_wp2
    go_ret
    refine ⟨by rw [HR.out]; rfl, F, ?_, fun y hy => .inl hy, TS.refl _ _⟩
    rw [HS.out, HR.out, HSF.out]
    exact H.out
  | true =>
    cases dirty with
    | false =>
      have HR := Lib.hid (show plSave ⟨true, pg, pins, false, used, b⟩ n D = (0, ⟨true, pg, pins, false, used, b⟩, D) from rfl)
      go_enter Tryd.func40, Tryd.ntmps40
      go_wp2
      go_ret
      refine ⟨by rw [HR.out]; rfl, F, ?_, fun y hy => .inl hy, TS.refl _ _⟩
      rw [HS.out, HR.out, HSF.out]
      exact H.out
    | true =>
      have HR := Lib.hid (show plSave ⟨true, pg, pins, true, used, b⟩ n D = (if (sdSave D n pg b).1 = 0 then (0, ⟨true, pg, pins, false, used, b⟩, (sdSave D n pg b).2) else ((sdSave D n pg b).1, ⟨true, pg, pins, true, used, b⟩, (sdSave D n pg b).2)) from rfl)
      generalize hps : plSave ⟨true, pg, pins, true, used, b⟩ n D = ps at *
      have HC := Lib.hid (fun (W : World) (h' : Dsk W F g n D) (hr : Rd W A b) => pg_Save h' pg A c b HXB.out HXD.out.2.1 hr (fun ad ha => (HXD.out.2.2.2 ad ha).2.1))
      generalize sdSave D n pg b = sv at *
      obtain ⟨er, D2⟩ := sv
      clear hps
      go_enter Tryd.func40, Tryd.ntmps40
      go_upto_region 3 with fail
      obtain ⟨W0, hW0⟩ : ∃ W0 : World, W0 = w := ⟨_, rfl⟩
      rw [← hW0]
      refine region_sch (E := TS (F)) ((0, true) :: (1, true) :: (2, true) :: (3, true) :: (4, true) :: (5, true) :: (6, true) :: (7, true) :: (8, true) :: (9, true) :: (10, true) :: (11, true) :: (12, true) :: (13, false) :: (14, true) :: []) (by kernel_rfl) (TS.refl _) (fun _ _ _ h k => TS.then h k) (fun _ _ d _ _ h => by cases d <;> exact h) (by kernel_rfl) ?_
      intro ops hops0
      have hops := Lib.hid hops0
      clear hops0
      have HF : TS (F) W0 W0.drew := TS.of (FB.refl _).drew
      have HD : FB W0 W0.drew := (FB.refl _).drew
      generalize W0.drew = wF0 at *
      rw [hW0] at HD
      have HQ := Lib.hid (H.out.fb HD)
      have HFQ := Lib.hid HD
      have HNP := Lib.hid HQ.out.ne.2.1
      have HNF := Lib.hid HQ.out.ne.2.2
      have K0 := Lib.hid (FB.cell HD p0)
      have K1 := Lib.hid (FB.cell HD c1)
      have K5 := Lib.hid (FB.cell HD c5)
      clear hW0 HD HF p0 p1 p2 c0 c1 c2 c3 c4 c5
      repeat (refine sch_take (o := ?_) (v := ?_) (a' := ?_) (at_of hops.out ?_) ?_ (fun W hW => ?_) ?_ ?_; rotate_left 3; (focus (simp only [List.getElem?_toArray, List.getElem?_cons_zero, List.getElem?_cons_succ]; rfl)); (focus (rw [hops.out]; rfl)); (focus (have u0 := TS.cell hW K0.out HNP.out; have u1 := TS.cell hW K1.out HNF.out; have u5 := TS.cell hW K5.out HNF.out; go_simp; with_reducible rfl)); (focus (simp only [Act.put, List.setIfInBounds_toArray, List.set_cons_zero, List.set_cons_succ]; rfl)))
      have HCC := Lib.hid (HC.out wF0 HQ.out.dsk (HFQ.out.rd HXD.out.1))
      (refine sch_call (o := ?_) (f := ?_) (args := ?_) (at_of hops.out ?_) ?_ ?_ ?_; rotate_left 3; (focus (simp only [List.getElem?_toArray, List.getElem?_cons_zero, List.getElem?_cons_succ]; rfl)); (focus (rw [hops.out]; rfl)); (focus (go_simp; constructor <;> with_reducible rfl)); (first | ((with_reducible refine HCC.out.mono ?_); rintro e w2 ⟨rfl, hres⟩; obtain ⟨F2, hp2, hin, hts⟩ := HQ.out.diskR hres; refine ⟨_, rfl, hts, ?_⟩; intro a' ha'; simp only [Act.put, List.setIfInBounds_toArray, List.set_cons_zero, List.set_cons_succ] at ha'; subst ha')))
      have HP2 := Lib.hid hp2
      have HIN := Lib.hid (show ∀ x ∈ F2, x ∈ F ∨ w.heap.size ≤ x from fun x hx => (hin x hx).imp id (fun h => Nat.le_trans HFQ.out.le h))
      have HTS := Lib.hid (show TS F w w2 from (TS.of HFQ.out).then hts)
      clear hres hp2 hin hts HCC HC K0 K1 K5 HNP HNF HQ HFQ
      repeat (refine sch_take (o := ?_) (v := ?_) (a' := ?_) (at_of hops.out ?_) ?_ (fun W hW => ?_) ?_ ?_; rotate_left 3; (focus (simp only [List.getElem?_toArray, List.getElem?_cons_zero, List.getElem?_cons_succ]; rfl)); (focus (rw [hops.out]; rfl)); (focus (go_simp; with_reducible rfl)); (focus (simp only [Act.put, List.setIfInBounds_toArray, List.set_cons_zero, List.set_cons_succ]; rfl)))
      refine sch_done ?_
      clear hops
      by_cases he : er = 0
      · subst he
        have HRR := Lib.hid (HR.out.trans (if_pos rfl))
        obtain ⟨c3, fz⟩ := HFZ.out _ _ _ HP2.out
        have hne := HP2.out.lt
        have HE := Lib.hid (HS1.out _ _ _ HP2.out ⟨true, pg, pins, false, used, b⟩ rfl rfl)
        have HTE := Lib.hid (show TS (gf :: F) w (w2.setCell ⟨gf, i * 6 + 3, none⟩ (.bool false)) from (HTS.out.more (fun x hx => List.mem_cons_of_mem _ hx)).then (TS.tb (TB.set (g := gf) w2 (i * 6 + 3) (.bool false)) (by simp)))
        clear hne
        go_wp2
        go_ret
        refine ⟨by rw [HRR.out]; rfl, F2, ?_, HIN.out, HTE.out⟩
        rw [HS.out, HRR.out]
        exact HE.out
      · have heb : (er != 0) = true := by simpa using he
        have HRR := Lib.hid (HR.out.trans (if_neg he))
        clear he
        go_wp2
        go_ret
        refine ⟨by rw [HRR.out]; rfl, F2, ?_, HIN.out, HTS.out.more (fun x hx => List.mem_cons_of_mem _ hx)⟩
        rw [HS.out, HRR.out, HSF.out]
        exact HP2.out
end
end Go.Proofs.YtoidlmhebnlnbaaDoor
/- pool: the walk through room. -/
set_option linter.unusedVariables false
set_option linter.unusedSimpArgs false
namespace Go.Proofs.YtoidlmhebnlnbaaDoor
open Go.ChangeShapes Go.WideShapes Go.ChangeAt Go.RowKit
attribute [local go_sem] nb_nonneg nb_lt8 nb_lt64
set_option maxRecDepth 100000

theorem fr_size : (Tryd.prog.info? 85).map (·.size) = some 6 := by kernel_rfl
section
variable {w w' W : World} {F G : List Nat} {g n gp gf hand : Nat} {xs : List FrX} {D : DiskSt}
/-- A whole frame is stored. -/
theorem Pol.storeF (h : Pol W F G g n gp gf xs hand D) (i : Nat) (hi : i < xs.length) (x : FrX) :
    (Instr.storeAt 85 (.pointer (some ⟨gf, i * 6, none⟩)) (.agg (frCs x).toArray)).run Tryd.prog W = .ok () (W.setRow gf (frFlat (xs.set i x)).toArray) := by
  have one : ∀ v ∈ frCs x, v.oneCell' = true := fun v hv => by
    unfold frCs at hv
    simp only [List.mem_cons, List.not_mem_nil, or_false] at hv
    rcases hv with rfl | rfl | rfl | rfl | rfl | rfl <;> rfl
  obtain ⟨t, ht, hs⟩ : ∃ t, Tryd.prog.info? 85 = some t ∧ t.size = 6 := by
    cases hq : Tryd.prog.info? 85 with
    | none => have := fr_size; rw [hq] at this; cases this
    | some t => have := fr_size; rw [hq] at this; exact ⟨t, rfl, by simpa using this⟩
  have hl := frFlat_len xs
  have h0 := run_storeCells_at (P := Tryd.prog) gf (i * 6) 85 (frCs x) 0 (frFlat xs).toArray W h.frow (by have : (frCs x).length = 6 := rfl; simp only [List.size_toArray]; omega) one
  have e0 : ((frFlat xs).toArray.toList.take (i * 6 + 0) ++ frCs x ++ (frFlat xs).toArray.toList.drop (i * 6 + 0 + (frCs x).length)) = frFlat (xs.set i x) := by
    rw [← frFlat_set xs i hi x]
    rfl
  rw [e0] at h0
  simp only [Instr.storeAt, Instr.sureAddr, Sem.run_bind, Sem.run_pure, Result.andThen]
  simp [storeVar, sizeOf, typeInfo, ht, hs, Value.cells, h0, show (frCs x).length = 6 from rfl]
theorem Pol.wholeF (h : Pol W F G g n gp gf xs hand D) (i : Nat) (x : FrX) (hx : Rd W x.A x.f.b ∧ x.f.b.length ≤ x.c ∧ x.c ≤ maxLen ∧ (∀ ad, x.A = some ad → ad.block < W.heap.size ∧ ad.block ∉ F ∧ ad.block ≠ gp ∧ ad.block ≠ gf ∧ ad.block ∉ G) ∧ x.f.b.length ≤ 100000000000) :
    Pol (W.setRow gf (frFlat (xs.set i x)).toArray) F G g n gp gf (xs.set i x) hand D :=
  h.frame i x ⟨rfl, rfl, rfl, by simp, fun k _ hk => setRow_other W gf k _ (fun e => hk (by simp [e]))⟩ (setRow_heap W gf _ _ _ _ h.frow) hx
theorem frx0_ok (W : World) (F G : List Nat) (gp gf : Nat) : Rd W frx0.A frx0.f.b ∧ frx0.f.b.length ≤ frx0.c ∧ frx0.c ≤ maxLen ∧ (∀ ad, frx0.A = some ad → ad.block < W.heap.size ∧ ad.block ∉ F ∧ ad.block ≠ gp ∧ ad.block ≠ gf ∧ ad.block ∉ G) ∧ frx0.f.b.length ≤ 100000000000 :=
  ⟨Rd.nil _ _, by simp [frx0, frm0], by simp [frx0, maxLen], (fun ad h => by cases h), by simp [frx0, frm0]⟩
theorem TS.row (F : List Nat) (g : Nat) (w : World) (cs : Array Value) (h : g ∈ F) : TS F w (w.setRow g cs) :=
  TS.tb (F := F) ⟨rfl, rfl, rfl, by simp, fun k _ hk => setRow_other w g k cs (fun e => hk (by simp [e]))⟩ h
set_option maxHeartbeats 2000000 in
theorem pl_room (h : Pol w F G g n gp gf xs hand D) :
    Calls Tryd.prog 36 #[.pointer (some ⟨gp, 0, none⟩)] w fun e w' => e = .returned (.tuple #[plPtr gf (plRoom n (plOf xs hand D)).1.1, .int .i64 (plRoom n (plOf xs hand D)).1.2]) ∧ PolR w F G g n gp gf (plRoom n (plOf xs hand D)).2 w' ∧ ∀ i, (plRoom n (plOf xs hand D)).1.1 = some i → i < xs.length := by
  obtain ⟨p0, p1, p2⟩ := h.pcells
  have H := Lib.hid h
  have HN := Lib.hid h.n256
  obtain ⟨R, hR⟩ : ∃ R, R = plRoom n (plOf xs hand D) := ⟨_, rfl⟩
  rw [← hR]
  have HR := Lib.hid hR
  clear h hR
  go_enter Tryd.func36, Tryd.ntmps36
  go_wp2_with fail
  go_step3
  go_wp2_with fail
  go_loop [4, 12] (fun _ i => ∃ j : Nat, j ≤ xs.length ∧ i = .int .i64 j ∧ Hid (plEmpty (xs.map (·.f)) = plIx (fun f => !f.is) ((xs.map (·.f)).drop j) j)) (fun _ i => xs.length - (intOf i).toNat)
  case atStart => exact ⟨0, by omega, rfl, Lib.hid rfl⟩
  case round =>
    obtain ⟨j, hj, rfl, HX⟩ := hrel
    by_cases hlt : j < xs.length
    · have hz : (j : Int) < (xs.length : Int) := by omega
      obtain ⟨c0, -, -, -, -, -⟩ := H.out.cells j hlt
      have hx := HX.out
      rw [plIx_drop (by rw [List.length_map]; exact hlt), List.getElem_map] at hx
      generalize xs[j].f.is = is at *
      have HJ := Lib.hid hlt
      have hwk : IntKind.i64.wrap ((j : Int) + 1) = (j : Int) + 1 := by rw [IntKind.wrap_i64]; have := HN.out; omega
      cases is with
      | false =>
        have HX2 := Lib.hid (show R = ((some j, 0), plOf xs hand D) from by
          rw [HR.out]
          unfold plRoom
          rw [show plEmpty (plOf xs hand D).fs = some j from hx.trans (by rw [if_pos (by simp)])])
        clear hx HX hlt hj
        go_wp2
        go_ret2
        rw [HX2.out]
        exact ⟨rfl, ⟨F, xs, H.out, rfl, fun x hx => .inl hx, TS.refl _ _⟩, fun i hi => by cases hi; exact HJ.out⟩
      | true =>
        have HX2 := Lib.hid (hx.trans (by rw [if_neg (by simp)]))
        clear hx HX hlt hj
        go_wp2
        go_round
        case rel => exact ⟨j + 1, by have := HJ.out; omega, by go_num, HX2⟩
        case measure => (show xs.length - ((j : Int) + 1).toNat < xs.length - ((j : Int)).toNat; have := HJ.out; omega)
    · have hz : ¬ (j : Int) < (xs.length : Int) := by omega
      have HX2 := Lib.hid (show R = plRound n (2 * xs.length) (plOf xs hand D) from by
        rw [HR.out]
        unfold plRoom
        rw [show plEmpty (plOf xs hand D).fs = none from by have := HX.out; rw [List.drop_of_length_le (by rw [List.length_map]; omega)] at this; exact this]
        show plRound n (2 * (xs.map (·.f)).length) _ = _
        rw [List.length_map])
      have hw2 : IntKind.i64.wrap (2 * (xs.length : Int)) = 2 * (xs.length : Int) := by rw [IntKind.wrap_i64]; have := HN.out; omega
      clear HX hlt hj HR
      go_wp2_with fail
      go_step3
      go_wp2_with fail
      clear p0 p1 p2 hz hw2
      go_loopw [5, 6, 38] (fun _ _ i wr => ∃ (k : Nat) (ys : List FrX) (hd : Nat), k ≤ 2 * xs.length ∧ i = .int .i64 k ∧ Hid (ys.length = xs.length) ∧ Hid (Pol wr F G g n gp gf ys hd D) ∧ Hid (R = plRound n (2 * xs.length - k) (plOf ys hd D)) ∧ Hid (TS (gp :: gf :: F) w wr)) (fun _ _ i _ => 2 * xs.length - (intOf i).toNat)
      case atStart => exact ⟨0, xs, hand, by omega, rfl, Lib.hid rfl, H, HX2, Lib.hid (TS.refl _ _)⟩
      case round =>
        clear HX2
        obtain ⟨k, ys, hd, hk, rfl, HYL, HP, HQ, HT⟩ := hrel
        by_cases hlt : k < 2 * xs.length
        · have hz : (k : Int) < 2 * (xs.length : Int) := by omega
          have HK := Lib.hid hlt
          clear hlt hk
          go_upto_region 9 with fail
          have HLP := Lib.hid (show 0 < xs.length from by have := HP.out.hl; have := HYL.out; omega)
          have HHD := Lib.hid (show hd < xs.length from by have := HP.out.hl; have := HYL.out; omega)
          have HHY := Lib.hid (show hd < ys.length from HP.out.hl)
          have hh0 : (hd : Int) < (ys.length : Int) := by have := HP.out.hl; omega
          have hrj := HQ.out
          rw [show 2 * xs.length - k = (2 * xs.length - (k + 1)) + 1 from by have := HK.out; omega, plRound] at hrj
          have hfx : (plOf ys hd D).fs.getD (plOf ys hd D).hand frm0 = (ys[hd]'(HHY.out)).f := plGetD ys hd HHY.out
          rw [hfx] at hrj
          have hnx : plNext (plOf ys hd D) = (hd + 1) % xs.length := by unfold plNext plOf; simp only [List.length_map]; rw [HYL.out]
          rw [hnx] at hrj
          have HRJ := Lib.hid hrj
          clear hrj hfx hnx HQ
          obtain ⟨W0, hW0⟩ : ∃ W0 : World, W0 = wr := ⟨_, rfl⟩
          rw [← hW0]
          refine region_sch (E := FB) ((0, true) :: (1, true) :: (2, true) :: (3, true) :: (4, true) :: (5, true) :: (6, true) :: (7, true) :: (8, true) :: (9, true) :: []) (by kernel_rfl) FB.refl fb_trans (fun _ _ d _ _ h => by cases d <;> exact h) (by kernel_rfl) ?_
          intro ops hops0
          have hops := Lib.hid hops0
          clear hops0
          have HF : FB W0 W0.drew := (FB.refl _).drew
          generalize W0.drew = wF at *
          have HP1 := Lib.hid (HP.out.fb (show FB wr wF from by rw [← hW0]; exact HF))
          have HT1 := Lib.hid (HT.out.then (TS.of (show FB wr wF from by rw [← hW0]; exact HF)))
          clear hW0 HF HP HT
          have K := Lib.hid HP1.out.pcells
          rw [HYL.out] at K hh0
          repeat (refine sch_take (o := ?_) (v := ?_) (a' := ?_) (at_of hops.out ?_) ?_ (fun W hW => ?_) ?_ ?_; rotate_left 3; (focus (simp only [List.getElem?_toArray, List.getElem?_cons_zero, List.getElem?_cons_succ]; rfl)); (focus (rw [hops.out]; rfl)); (focus (have u0 := FB.cell hW K.out.1; have u1 := FB.cell hW K.out.2.1; have u2 := FB.cell hW K.out.2.2; go_simp; with_reducible rfl)); (focus (simp only [Act.put, List.setIfInBounds_toArray, List.set_cons_zero, List.set_cons_succ]; rfl)))
          refine sch_done ?_
          clear hops K hh0
          generalize wF = wa at *
          have HXD := Lib.hid (HP1.out.rd (ys[hd]'(HHY.out)) (List.getElem_mem HHY.out))
          have HXB := Lib.hid (HP1.out.bd (ys[hd]'(HHY.out)) (List.getElem_mem HHY.out))
          obtain ⟨c0, c1, c2, c3, c4, c5⟩ := HP1.out.cells hd HHY.out
          have HSU := Lib.hid (fun (W : World) (h' : Pol W F G g n gp gf ys hd D) => h'.set1 hd HHY.out 4 (by omega) (.bool false) { (ys[hd]'(HHY.out)).f with used := false } rfl rfl)
          have HFZ := Lib.hid (frozen_row _ HP1.out.frow (hd * 6 + 4))
          have HSV := Lib.hid (fun (W : World) (h' : Pol W F G g n gp gf ys hd D) => pl_save h' hd HHY.out)
          have HYX := Lib.hid (show (ys.map (·.f)).length = xs.length from by rw [List.length_map]; exact HYL.out)
          have hw1 : IntKind.i64.wrap ((hd : Int) + 1) = (hd : Int) + 1 := by rw [IntKind.wrap_i64]; have := HHD.out; have := HN.out; omega
          obtain ⟨nx, HNX, hnl⟩ : ∃ nx : Nat, Hid (nx = (hd + 1) % xs.length) ∧ nx < xs.length := ⟨_, Lib.hid rfl, Nat.mod_lt _ HLP.out⟩
          have HNL := Lib.hid hnl
          have hw2 : ((hd : Int) + 1).tmod (xs.length : Int) = (nx : Int) := by
            rw [Int.tmod_eq_emod_of_nonneg (by omega), HNX.out]
            exact (show (((hd + 1) % xs.length : Nat) : Int) = ((hd + 1 : Nat) : Int) % (xs.length : Int) from by first | exact Int.natCast_emod _ _ | exact Int.natCast_mod _ _ | exact Int.ofNat_emod _ _).symm
          have hw3 : IntKind.i64.wrap (nx : Int) = (nx : Int) := by rw [IntKind.wrap_i64]; have := HN.out; omega
          rw [← HNX.out] at HRJ
          clear hnl
          have hw5 : ¬ xs = [] := fun e => by have := HLP.out; rw [e] at this; simp at this
          have hwk : IntKind.i64.wrap ((k : Int) + 1) = (k : Int) + 1 := by rw [IntKind.wrap_i64]; have := HK.out; have := HN.out; omega
          have hw4 : ((xs.length : Int) == 0) = false := by rw [beq_eq_false_iff_ne]; have := HLP.out; omega
          generalize hx : (ys[hd]'(HHY.out)) = x at *
          by_cases hp : 0 < x.f.pins
          · have HQ2 := Lib.hid (HRJ.out.trans (if_pos hp))
            clear hx HRJ HSU HSV HXD HXB HFZ
            go_upto_region 19 with fail
            clear c0 c1 c2 c3 c4 c5 hp
            obtain ⟨W0, hW0⟩ : ∃ W0 : World, W0 = wa := ⟨_, rfl⟩
            rw [← hW0]
            refine region_schL (E := FB) 14 ((0, true) :: (1, true) :: (2, true) :: (3, true) :: (4, true) :: (5, true) :: (6, true) :: (7, true) :: (8, true) :: (9, true) :: (10, true) :: (11, false) :: (12, false) :: (13, false) :: []) (by kernel_rfl) FB.refl fb_trans (fun _ _ d _ _ h => by cases d <;> exact h) (by kernel_rfl) ?_
            intro ops hops0
            have hops := Lib.hid hops0
            clear hops0
            have HF : FB W0 W0.drew := (FB.refl _).drew
            generalize W0.drew = wF at *
            have HPZq := Lib.hid (HP1.out.fb (show FB wa wF from by rw [← hW0]; exact HF))
            have HPZf := Lib.hid (show FB wa wF from by rw [← hW0]; exact HF)
            clear hW0 HF
            have K := Lib.hid HPZq.out.pcells
            rw [HYL.out] at K
            have HK0 := K
            repeat (refine sch_take (o := ?_) (v := ?_) (a' := ?_) (at_of hops.out ?_) ?_ (fun W hW => ?_) ?_ ?_; rotate_left 3; (focus (simp only [List.getElem?_toArray, List.getElem?_cons_zero, List.getElem?_cons_succ]; rfl)); (focus (rw [hops.out]; rfl)); (focus (have u0 := FB.cell hW K.out.1; have u1 := FB.cell hW K.out.2.1; have u2 := FB.cell hW K.out.2.2; go_simp; with_reducible rfl)); (focus (simp only [Act.put, List.setIfInBounds_toArray, List.set_cons_zero, List.set_cons_succ]; rfl)))
            repeat (refine sch_run (o := ?_) (v := ?_) (a' := ?_) (w' := ?_) (at_of hops.out ?_) ?_ ?_ ?_ ?_ ?_; rotate_left 4; (focus (simp only [List.getElem?_toArray, List.getElem?_cons_zero, List.getElem?_cons_succ]; rfl)); (focus (rw [hops.out]; rfl)); (focus (go_simp; constructor <;> with_reducible rfl)); (focus (exact FB.refl _)); (focus (simp only [Act.put, List.setIfInBounds_toArray, List.set_cons_zero, List.set_cons_succ]; rfl)))
            have u2 := K.out.2.2
            have u3 := frozen_row _ HPZq.out.prow 2
            (refine schL_store (o := ?_) (w' := wF.setCell ⟨gp, 2, none⟩ (.int .i64 (nx : Nat))) (at_of hops.out ?_) ?_ 3 (.tmp 103) (.tmp 101) ?_ (.pointer (some ⟨gp, 2, none⟩)) (.int .i64 (nx : Nat)) ?_ ?_ ?_ ?_; rotate_left 1; (focus (simp only [List.getElem?_toArray, List.getElem?_cons_zero, List.getElem?_cons_succ]; rfl)); (focus (rw [hops.out]; rfl)); (focus rfl); (focus rfl); (focus (first | rfl | (simp [Act.eval] <;> done))); (focus (go_simp)))
            have HPZ := Lib.hid (HPZq.out.moved nx (by rw [HYL.out]; exact HNL.out))
            have HPZt := Lib.hid (show TS (gp :: gf :: F) wa (wF.setCell ⟨gp, 2, none⟩ (.int .i64 (nx : Nat))) from (TS.of HPZf.out).then (TS.tb (TB.set (g := gp) wF 2 _) (by simp)))
            clear u2 u3 K HK0 hops HPZq HPZf HP1
            go_wp2_with fail
            go_roundw
            case rel => exact ⟨k + 1, ys, nx, by have := HK.out; omega, by go_num, HYL, HPZ, HQ2, Lib.hid (HT1.out.then HPZt.out)⟩
            case measure => (show 2 * xs.length - ((k : Int) + 1).toNat < 2 * xs.length - ((k : Int)).toNat; have := HK.out; omega)
          have hrj := HRJ.out.trans (if_neg hp)
          cases hu : x.f.used with
          | true =>
            rw [hu, if_pos rfl] at hrj
            rw [hu] at c4
            have HPU := Lib.hid (HSU.out _ HP1.out)
            have HZF := Lib.hid (show (ys.map (·.f)).set hd { x.f with used := false } = (ys.set hd ⟨{ x.f with used := false }, x.A, x.c⟩).map (·.f) from by rw [List.map_set])
            have HZL := Lib.hid (show (ys.set hd ⟨{ x.f with used := false }, x.A, x.c⟩).length = xs.length from by rw [List.length_set]; exact HYL.out)
            obtain ⟨zs, hzs⟩ : ∃ zs, zs = ys.set hd ⟨{ x.f with used := false }, x.A, x.c⟩ := ⟨_, rfl⟩
            rw [← hzs] at HPU HZF HZL
            have HQ2 := Lib.hid (show R = plRound n (2 * xs.length - (k + 1)) (plOf zs nx D) from by
              rw [hrj]
              unfold plOf
              rw [← HZF.out])
            obtain ⟨wb, hwb⟩ : ∃ wb : World, wb = wa.setCell ⟨gf, hd * 6 + 4, none⟩ (.bool false) := ⟨_, rfl⟩
            rw [← hwb] at HPU
            have HTB := Lib.hid (show TS (gp :: gf :: F) wa wb from by rw [hwb]; exact TS.tb (TB.set (g := gf) wa (hd * 6 + 4) (.bool false)) (by simp))
            have HWB := Lib.hid hwb
            have u4 := HFZ.out
            clear hrj hzs hwb hx HRJ HSU HSV HXD HXB HYX
            go_upto_region 19 with fail
            rw [← HWB.out]
            clear c0 c1 c2 c3 c4 c5 hp hu u4 HWB HFZ HP1
            obtain ⟨W0, hW0⟩ : ∃ W0 : World, W0 = wb := ⟨_, rfl⟩
            rw [← hW0]
            refine region_schL (E := FB) 14 ((0, true) :: (1, true) :: (2, true) :: (3, true) :: (4, true) :: (5, true) :: (6, true) :: (7, true) :: (8, true) :: (9, true) :: (10, true) :: (11, false) :: (12, false) :: (13, false) :: []) (by kernel_rfl) FB.refl fb_trans (fun _ _ d _ _ h => by cases d <;> exact h) (by kernel_rfl) ?_
            intro ops hops0
            have hops := Lib.hid hops0
            clear hops0
            have HF : FB W0 W0.drew := (FB.refl _).drew
            generalize W0.drew = wF at *
            have HPZq := Lib.hid (HPU.out.fb (show FB wb wF from by rw [← hW0]; exact HF))
            have HPZf := Lib.hid (show FB wb wF from by rw [← hW0]; exact HF)
            clear hW0 HF
            have K := Lib.hid HPZq.out.pcells
            rw [HZL.out] at K
            have HK0 := K
            repeat (refine sch_take (o := ?_) (v := ?_) (a' := ?_) (at_of hops.out ?_) ?_ (fun W hW => ?_) ?_ ?_; rotate_left 3; (focus (simp only [List.getElem?_toArray, List.getElem?_cons_zero, List.getElem?_cons_succ]; rfl)); (focus (rw [hops.out]; rfl)); (focus (have u0 := FB.cell hW K.out.1; have u1 := FB.cell hW K.out.2.1; have u2 := FB.cell hW K.out.2.2; go_simp; with_reducible rfl)); (focus (simp only [Act.put, List.setIfInBounds_toArray, List.set_cons_zero, List.set_cons_succ]; rfl)))
            repeat (refine sch_run (o := ?_) (v := ?_) (a' := ?_) (w' := ?_) (at_of hops.out ?_) ?_ ?_ ?_ ?_ ?_; rotate_left 4; (focus (simp only [List.getElem?_toArray, List.getElem?_cons_zero, List.getElem?_cons_succ]; rfl)); (focus (rw [hops.out]; rfl)); (focus (go_simp; constructor <;> with_reducible rfl)); (focus (exact FB.refl _)); (focus (simp only [Act.put, List.setIfInBounds_toArray, List.set_cons_zero, List.set_cons_succ]; rfl)))
            have u2 := K.out.2.2
            have u3 := frozen_row _ HPZq.out.prow 2
            (refine schL_store (o := ?_) (w' := wF.setCell ⟨gp, 2, none⟩ (.int .i64 (nx : Nat))) (at_of hops.out ?_) ?_ 3 (.tmp 103) (.tmp 101) ?_ (.pointer (some ⟨gp, 2, none⟩)) (.int .i64 (nx : Nat)) ?_ ?_ ?_ ?_; rotate_left 1; (focus (simp only [List.getElem?_toArray, List.getElem?_cons_zero, List.getElem?_cons_succ]; rfl)); (focus (rw [hops.out]; rfl)); (focus rfl); (focus rfl); (focus (first | rfl | (simp [Act.eval] <;> done))); (focus (go_simp)))
            have HPZ := Lib.hid (HPZq.out.moved nx (by rw [HZL.out]; exact HNL.out))
            have HPZt := Lib.hid (show TS (gp :: gf :: F) wb (wF.setCell ⟨gp, 2, none⟩ (.int .i64 (nx : Nat))) from (TS.of HPZf.out).then (TS.tb (TB.set (g := gp) wF 2 _) (by simp)))
            clear u2 u3 K HK0 hops HPZq HPZf HPU
            go_wp2_with fail
            go_roundw
            case rel => exact ⟨k + 1, zs, nx, by have := HK.out; omega, by go_num, HZL, HPZ, HQ2, Lib.hid ((HT1.out.then HTB.out).then HPZt.out)⟩
            case measure => (show 2 * xs.length - ((k : Int) + 1).toNat < 2 * xs.length - ((k : Int)).toNat; have := HK.out; omega)
          | false =>
            rw [hu, if_neg (by decide)] at hrj
            have hsv := HSV.out wa HP1.out
            replace hrj : R = (if (plSave x.f n D).1 = 0 then ((some hd, 0), ⟨(ys.map (·.f)).set hd frm0, nx, (plSave x.f n D).2.2⟩) else ((none, (plSave x.f n D).1), plOf ys hd (plSave x.f n D).2.2)) := hrj
            have HPS := Lib.hid (show plSaved ys hd HHY.out n D = ys.set hd ⟨(plSave x.f n D).2.1, x.A, x.c⟩ from by unfold plSaved; rw [hx])
            have HPF := Lib.hid (plSave_off x.f n D)
            have HYS := Lib.hid (show ys.set hd ⟨x.f, x.A, x.c⟩ = ys from by rw [← hx]; exact List.set_getElem_self _)
            generalize plSaved ys hd HHY.out n D = zs at *
            generalize plSave x.f n D = sv at *
            obtain ⟨er, f2, D2⟩ := sv
            have HQ := Lib.hid hrj
            have HC := Lib.hid hsv
            clear hrj hsv hx HRJ HSU HSV HXD HXB HFZ
            go_wp2_with fail
            refine HC.out.mono ?_
            rintro e wb ⟨rfl, F2, hp2, hin, hts⟩
            have HPB := Lib.hid hp2
            have HIN := Lib.hid (show ∀ x ∈ F2, x ∈ F ∨ w.heap.size ≤ x from fun x hx => (hin x hx).imp id (fun h => Nat.le_trans HT1.out.size h))
            have HTB := Lib.hid (show TS (gp :: gf :: F) w wb from HT1.out.then (hts.more (fun x hx => List.mem_cons_of_mem _ hx)))
            clear hp2 hin hts HC HT1 HP1 c0 c1 c2 c3 c4 c5
            try simp only at HQ
            try simp only at HPS
            try simp only at HPF
            by_cases he : er = 0
            · subst he
              have hq2 := HQ.out.trans (if_pos rfl)
              have hst := HPB.out.storeF hd (by rw [HPS.out, List.length_set]; exact HHY.out) frx0
              have hpw := HPB.out.wholeF hd frx0 (frx0_ok wb F2 G gp gf)
              have hzz : zs.set hd frx0 = ys.set hd frx0 := by rw [HPS.out, List.set_set]
              rw [hzz] at hst hpw
              have hst2 : (Instr.storeAt 85 (.pointer (some ⟨gf, hd * 6, none⟩)) (.agg #[.bool false, .int .i64 0, .int .i64 0, .bool false, .bool false, .slice none 0 0])).run Tryd.prog wb = .ok () (wb.setRow gf (frFlat (ys.set hd frx0)).toArray) := hst
              obtain ⟨wc, hwc⟩ : ∃ wc : World, wc = wb.setRow gf (frFlat (ys.set hd frx0)).toArray := ⟨_, rfl⟩
              rw [← hwc] at hst2 hpw
              have HPC := Lib.hid hpw
              have HTC := Lib.hid (show TS (gp :: gf :: F) w wc from by rw [hwc]; exact HTB.out.then (TS.row _ gf wb _ (by simp)))
              have HQ2 := Lib.hid (show R = ((some hd, 0), plOf (ys.set hd frx0) nx D2) from by rw [hq2]; unfold plOf; rw [List.map_set]; rfl)
              have HCL := Lib.hid (show (ys.set hd frx0).length = xs.length from by rw [List.length_set]; exact HYL.out)
              generalize ys.set hd frx0 = vs at *
              clear hst hpw hzz hq2 hwc HTB HPB HQ
              go_upto_region 14 with (refine wpList_store_by rfl _ _ _ rfl _ hst2 ?_)
              clear hst2
              obtain ⟨W0, hW0⟩ : ∃ W0 : World, W0 = wc := ⟨_, rfl⟩
              rw [← hW0]
              refine region_schL (E := FB) 14 ((0, true) :: (1, true) :: (2, true) :: (3, true) :: (4, true) :: (5, true) :: (6, true) :: (7, true) :: (8, true) :: (9, true) :: (10, true) :: (11, false) :: (12, false) :: (13, false) :: []) (by kernel_rfl) FB.refl fb_trans (fun _ _ d _ _ h => by cases d <;> exact h) (by kernel_rfl) ?_
              intro ops hops0
              have hops := Lib.hid hops0
              clear hops0
              have HF : FB W0 W0.drew := (FB.refl _).drew
              generalize W0.drew = wF at *
              have HPZq := Lib.hid (HPC.out.fb (show FB wc wF from by rw [← hW0]; exact HF))
              have HPZf := Lib.hid (show FB wc wF from by rw [← hW0]; exact HF)
              clear hW0 HF
              have K := Lib.hid HPZq.out.pcells
              rw [HCL.out] at K
              have HK0 := K
              repeat (refine sch_take (o := ?_) (v := ?_) (a' := ?_) (at_of hops.out ?_) ?_ (fun W hW => ?_) ?_ ?_; rotate_left 3; (focus (simp only [List.getElem?_toArray, List.getElem?_cons_zero, List.getElem?_cons_succ]; rfl)); (focus (rw [hops.out]; rfl)); (focus (have u0 := FB.cell hW K.out.1; have u1 := FB.cell hW K.out.2.1; have u2 := FB.cell hW K.out.2.2; go_simp; with_reducible rfl)); (focus (simp only [Act.put, List.setIfInBounds_toArray, List.set_cons_zero, List.set_cons_succ]; rfl)))
              repeat (refine sch_run (o := ?_) (v := ?_) (a' := ?_) (w' := ?_) (at_of hops.out ?_) ?_ ?_ ?_ ?_ ?_; rotate_left 4; (focus (simp only [List.getElem?_toArray, List.getElem?_cons_zero, List.getElem?_cons_succ]; rfl)); (focus (rw [hops.out]; rfl)); (focus (go_simp; constructor <;> with_reducible rfl)); (focus (exact FB.refl _)); (focus (simp only [Act.put, List.setIfInBounds_toArray, List.set_cons_zero, List.set_cons_succ]; rfl)))
              have u2 := K.out.2.2
              have u3 := frozen_row _ HPZq.out.prow 2
              (refine schL_store (o := ?_) (w' := wF.setCell ⟨gp, 2, none⟩ (.int .i64 (nx : Nat))) (at_of hops.out ?_) ?_ 3 (.tmp 71) (.tmp 69) ?_ (.pointer (some ⟨gp, 2, none⟩)) (.int .i64 (nx : Nat)) ?_ ?_ ?_ ?_; rotate_left 1; (focus (simp only [List.getElem?_toArray, List.getElem?_cons_zero, List.getElem?_cons_succ]; rfl)); (focus (rw [hops.out]; rfl)); (focus rfl); (focus rfl); (focus (first | rfl | (simp [Act.eval] <;> done))); (focus (go_simp)))
              have HPZ := Lib.hid (HPZq.out.moved nx (by rw [HCL.out]; exact HNL.out))
              have HPZt := Lib.hid (show TS (gp :: gf :: F) wc (wF.setCell ⟨gp, 2, none⟩ (.int .i64 (nx : Nat))) from (TS.of HPZf.out).then (TS.tb (TB.set (g := gp) wF 2 _) (by simp)))
              clear u2 u3 K HK0 hops HPZq HPZf HPC
              go_wp2
              simp only [Exit.noGoto_ret]
              go_wp2
              go_ret2
              rw [HQ2.out]
              exact ⟨rfl, ⟨F2, vs, HPZ.out, rfl, HIN.out, HTC.out.then HPZt.out⟩, fun i hi => by cases hi; exact HHD.out⟩
            · have heb : (er != 0) = true := by simpa using he
              have HQ2 := Lib.hid (HQ.out.trans (if_neg he))
              have HZY := Lib.hid (show zs = ys from by rw [HPS.out, HPF.out he]; exact HYS.out)
              clear he
              go_wp2
              simp only [Exit.noGoto_ret]
              go_wp2
              go_ret2
              rw [HQ2.out]
              exact ⟨rfl, ⟨F2, ys, by have h := HPB.out; rw [HZY.out] at h; exact h, rfl, HIN.out, HTB.out⟩, fun i hi => by cases hi⟩
        · skip
          have hz : ¬ (k : Int) < 2 * (xs.length : Int) := by omega
          have HQ2 := Lib.hid (show R = ((none, 9), plOf ys hd D) from by
            have := HQ.out
            rw [show 2 * xs.length - k = 0 by omega] at this
            exact this)
          clear hlt hk HQ
          go_wp2
          go_ret2
          rw [HQ2.out]
          exact ⟨rfl, ⟨F, ys, HP.out, rfl, fun x hx => .inl hx, HT.out⟩, fun i hi => by cases hi⟩
end
end Go.Proofs.YtoidlmhebnlnbaaDoor
