/- A disk and the reference's disk, side by side. -/
import Derived.Test.YtbedpjpddcjpkaaRfj
set_option linter.unusedVariables false
set_option linter.unusedSimpArgs false
namespace Go.Proofs.Ytbedpjpddcjpkaa
open Go.ChangeShapes Go.WideShapes Go.ChangeAt Go.RowKit Go.MapKept

structure Two (w0 w : World) (F : List Nat) (g : Nat) (G : List Nat) (h n : Nat) (D D2 : DiskSt) : Prop where
  dw : DW w0 w F g n D
  rd : RDsk w G h n D2
  own : ∀ x ∈ G, w0.heap.size ≤ x
  dj : ∀ x ∈ F, x ∉ G
section
variable {w0 w w' : World} {F G : List Nat} {g h n : Nat} {D D2 D' : DiskSt}
theorem Two.fb (t : Two w0 w F g G h n D D2) (k : FB w w') : Two w0 w' F g G h n D D2 := ⟨t.dw.fbn k, t.rd.fb k, t.own, t.dj⟩
theorem Two.stepD (t : Two w0 w F g G h n D D2) (k : DskRes w F g n D' w') : ∃ F', Two w0 w' F' g G h n D' D2 ∧ TS F w w' := by
  obtain ⟨F', h1, h2, h3⟩ := t.dw.res k
  refine ⟨F', ⟨h1, t.rd.ts h2 t.dj, t.own, fun x hx hg => ?_⟩, h2⟩
  rcases h3 x hx with h' | h'
  · exact t.dj x h' hg
  · have := t.rd.lt x hg; omega
theorem Two.stepR (t : Two w0 w F g G h n D D2) (k : RRes w G h n D' w') : ∃ G', Two w0 w' F g G' h n D D' ∧ TS G w w' := by
  obtain ⟨G', h1, h2, h3⟩ := k
  have hd : ∀ x ∈ G, x ∉ F := fun x hx hf => t.dj x hf hx
  refine ⟨G', ⟨⟨t.dw.dsk.ts h3 hd, t.dw.fb.ts h3 t.own, t.dw.own⟩, h2, fun x hx => ?_, fun x hx hg => ?_⟩, h3⟩
  · rcases h1 x hx with h' | h'
    · exact t.own x h'
    · exact Nat.le_trans t.dw.fb.le h'
  · rcases h1 x hg with h' | h'
    · exact t.dj x hx h'
    · have := t.dw.dsk.lt x hx; omega
theorem DskRes.of (h : Dsk w' F g n D') (t : TS F w w') : DskRes w F g n D' w' := ⟨F, fun x hx => .inl hx, h, t⟩
theorem RRes.of (h : RDsk w' G g n D') (t : TS G w w') : RRes w G g n D' w' := ⟨G, fun x hx => .inl hx, h, t⟩
/-- A block outside both. -/
theorem Two.keepD (t : Two w0 w F g G h n D D2) (k : TS F w w') {b : Nat} {o : Obj} (hb : w.heap[b]? = some o) (hn : b ∉ F) : w'.heap[b]? = some o := (k.block b (Array.getElem?_eq_some_iff.1 hb).1 hn).trans hb
end
end Go.Proofs.Ytbedpjpddcjpkaa
