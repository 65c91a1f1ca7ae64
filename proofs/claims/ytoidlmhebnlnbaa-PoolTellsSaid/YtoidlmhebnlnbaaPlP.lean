/- pool, plain: its state; what each method does to it. -/
import Derived.Test.YtoidlmhebnlnbaaPgN
set_option linter.unusedVariables false
set_option linter.unusedSimpArgs false
namespace Go.Proofs.Ytoidlmhebnlnbaa

/-- A frame: is there a page; which; pins; dirty; used; its bytes. -/
structure Frm where
  is : Bool
  pg : Int
  pins : Int
  dirty : Bool
  used : Bool
  b : List Byte
def frm0 : Frm := ⟨false, 0, 0, false, false, []⟩
/-- A pool: its frames, its hand, its disk. -/
structure PlSt where
  fs : List Frm
  hand : Nat
  D : DiskSt
def plHas (f : Frm) (n : Int) : Bool := f.is && decide (f.pg = n)
/-- The first frame, from i on, of which it holds. -/
def plIx (q : Frm → Bool) : List Frm → Nat → Option Nat
  | [], _ => none
  | f :: fs, i => if q f then some i else plIx q fs (i + 1)
def plFind (fs : List Frm) (n : Int) : Option Nat := plIx (fun f => plHas f n) fs 0
def plEmpty (fs : List Frm) : Option Nat := plIx (fun f => !f.is) fs 0
/-- A frame is saved, if it is dirty. -/
def plSave (f : Frm) (n : Nat) (D : DiskSt) : Int × Frm × DiskSt :=
  if f.is && f.dirty then (if (sdSave D n f.pg f.b).1 = 0 then (0, { f with dirty := false }, (sdSave D n f.pg f.b).2) else ((sdSave D n f.pg f.b).1, f, (sdSave D n f.pg f.b).2)) else (0, f, D)
def plNext (st : PlSt) : Nat := (st.hand + 1) % st.fs.length
/-- The hand goes round. -/
def plRound (n : Nat) : Nat → PlSt → (Option Nat × Int) × PlSt
  | 0, st => ((none, 9), st)
  | k + 1, st =>
    if 0 < (st.fs.getD st.hand frm0).pins then plRound n k { st with hand := plNext st }
    else if (st.fs.getD st.hand frm0).used then plRound n k { st with fs := st.fs.set st.hand { (st.fs.getD st.hand frm0) with used := false }, hand := plNext st }
    else if (plSave (st.fs.getD st.hand frm0) n st.D).1 = 0 then ((some st.hand, 0), ⟨st.fs.set st.hand frm0, plNext st, (plSave (st.fs.getD st.hand frm0) n st.D).2.2⟩)
    else ((none, (plSave (st.fs.getD st.hand frm0) n st.D).1), { st with D := (plSave (st.fs.getD st.hand frm0) n st.D).2.2 })
def plRoom (n : Nat) (st : PlSt) : (Option Nat × Int) × PlSt :=
  match plEmpty st.fs with
  | some i => ((some i, 0), st)
  | none => plRound n (2 * st.fs.length) st
theorem plIx_some {q : Frm → Bool} : ∀ {fs : List Frm} {i k : Nat}, plIx q fs i = some k → i ≤ k ∧ k < i + fs.length ∧ q (fs.getD (k - i) frm0) = true := by
  intro fs
  induction fs with
  | nil => intro i k h; cases h
  | cons f fs ih =>
    intro i k h
    rw [plIx] at h
    split at h
    · cases h
      rename_i hq
      refine ⟨Nat.le_refl _, by simp, ?_⟩
      rw [Nat.sub_self]; exact hq
    · obtain ⟨h1, h2, h3⟩ := ih h
      refine ⟨by omega, by simp only [List.length_cons]; omega, ?_⟩
      rw [show k - i = (k - (i + 1)) + 1 by omega, List.getD_cons_succ]; exact h3
theorem plIx_none {q : Frm → Bool} : ∀ {fs : List Frm} {i : Nat}, plIx q fs i = none → ∀ f ∈ fs, q f = false := by
  intro fs
  induction fs with
  | nil => intro i h f hf; cases hf
  | cons g fs ih =>
    intro i h f hf
    rw [plIx] at h
    split at h
    · cases h
    · rename_i hq
      rcases List.mem_cons.1 hf with rfl | hf
      · simpa using hq
      · exact ih h f hf
/-- While it is looked for: the first j frames are not it. -/
theorem plIx_drop {q : Frm → Bool} {fs : List Frm} {j : Nat} (hj : j < fs.length) (i : Nat) : plIx q (fs.drop j) i = if q fs[j] then some i else plIx q (fs.drop (j + 1)) (i + 1) := by
  rw [List.drop_eq_getElem_cons hj, plIx]
/-- A page is got: its frame. -/
def plGet (n : Nat) (st : PlSt) (k : Int) : (Option Nat × Int) × PlSt :=
  if pgOut n k then ((none, 2), st) else
  match plFind st.fs k with
  | some i => ((some i, 0), { st with fs := st.fs.set i { (st.fs.getD i frm0) with used := true } })
  | none =>
    match plRoom n st with
    | ((some i, _), st1) =>
      if (sdLoad st1.D n k).2.1 = 0 then ((some i, 0), ⟨st1.fs.set i ⟨true, k, 0, false, true, (sdLoad st1.D n k).1⟩, st1.hand, (sdLoad st1.D n k).2.2⟩)
      else ((none, (sdLoad st1.D n k).2.1), { st1 with D := (sdLoad st1.D n k).2.2 })
    | ((none, e), st1) => ((none, e), st1)
def plPut (n : Nat) (st : PlSt) (k : Int) (xs : List Byte) : Int × PlSt :=
  if pgOut n k ∨ xs.length ≠ 4096 then (2, st) else
  match plFind st.fs k with
  | some i => (0, { st with fs := st.fs.set i { (st.fs.getD i frm0) with b := xs, dirty := true, used := true } })
  | none =>
    match plRoom n st with
    | ((some i, _), st1) => (0, { st1 with fs := st1.fs.set i ⟨true, k, 0, true, true, xs⟩ })
    | ((none, e), st1) => (e, st1)
def plPin (n : Nat) (st : PlSt) (k : Int) : Int × PlSt :=
  match plGet n st k with
  | ((some i, e), st1) => (e, { st1 with fs := st1.fs.set i { (st1.fs.getD i frm0) with pins := IntKind.i64.wrap ((st1.fs.getD i frm0).pins + 1) } })
  | ((none, e), st1) => (e, st1)
def plUnpin (st : PlSt) (k : Int) : Int × PlSt :=
  match plFind st.fs k with
  | some i => if (st.fs.getD i frm0).pins = 0 then (6, st) else (0, { st with fs := st.fs.set i { (st.fs.getD i frm0) with pins := IntKind.i64.wrap ((st.fs.getD i frm0).pins - 1) } })
  | none => (6, st)
def plEvict (n : Nat) (st : PlSt) (i : Int) : Int × PlSt :=
  if i < 0 ∨ (st.fs.length : Int) ≤ i then (2, st)
  else if !(st.fs.getD i.toNat frm0).is || decide (0 < (st.fs.getD i.toNat frm0).pins) then (6, st)
  else if (plSave (st.fs.getD i.toNat frm0) n st.D).1 = 0 then (0, { st with fs := st.fs.set i.toNat frm0, D := (plSave (st.fs.getD i.toNat frm0) n st.D).2.2 })
  else ((plSave (st.fs.getD i.toNat frm0) n st.D).1, { st with D := (plSave (st.fs.getD i.toNat frm0) n st.D).2.2 })
def plDrop (n : Nat) (st : PlSt) (k : Int) : Int × PlSt :=
  if pgOut n k then (2, st) else
  match plFind st.fs k with
  | some i => (0, { st with fs := st.fs.set i frm0 })
  | none => (0, st)
/-- The frames from i on are saved. -/
def plCleanF (n : Nat) : Nat → Nat → PlSt → Int × PlSt
  | 0, _, st => (0, st)
  | r + 1, i, st =>
    if (plSave (st.fs.getD i frm0) n st.D).1 = 0 then plCleanF n r (i + 1) { st with fs := st.fs.set i (plSave (st.fs.getD i frm0) n st.D).2.1, D := (plSave (st.fs.getD i frm0) n st.D).2.2 }
    else ((plSave (st.fs.getD i frm0) n st.D).1, { st with D := (plSave (st.fs.getD i frm0) n st.D).2.2 })
def plClean (n : Nat) (st : PlSt) : Int × PlSt := plCleanF n st.fs.length 0 st
end Go.Proofs.Ytoidlmhebnlnbaa
