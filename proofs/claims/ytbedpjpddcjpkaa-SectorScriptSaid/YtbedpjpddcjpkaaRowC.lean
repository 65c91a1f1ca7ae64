/- A crash as it comes in, opened. -/
import Derived.Test.YtbedpjpddcjpkaaRow
import Derived.Lib.SmallJoins
import Derived.Deep.Slices
set_option linter.unusedVariables false
set_option linter.unusedSimpArgs false
namespace Go.Proofs.Ytbedpjpddcjpkaa
open Go.ChangeShapes Go.WideShapes Go.ChangeAt Go.RowKit Go.Deep

section
variable {H : Type} {enc : TypeId × Value → H} {W : World} {v : Value} {d : DataW H} {p : List MemPlace}
set_option maxRecDepth 100000 in
theorem open_boolsC {base : Nat} {spare : Nat → Bool} {held : Bool} {n : Nat} {y : DataW H × List MemPlace} (hf : DataW.trod enc Try.prog W base spare held n 23 [v] = some y) :
    ∃ A c xs, v = .slice A (xs : List Bool).length c ∧ xs.length ≤ c ∧ c ≤ maxLen ∧ RdV W A (xs.map .bool) := by
  rcases open_slice1 Try.underlying23 (by kernel_rfl) hf with ⟨hcs, _⟩ | ⟨a, len, cap, m, nn, V, D, Pl, hcs, _, hl, hm, hmm, _, hx⟩
  · simp at hcs
    subst hcs
    exact ⟨none, 0, [], rfl, by simp, by simp [maxLen], RdV.nil _ _⟩
  · simp at hcs
    subst hcs
    have hlm : len ≤ m := by rw [hmm]; split <;> omega
    obtain ⟨B, hB⟩ := choose_lt (α := Bool) (p := fun i b => W.cell? (a.add i) = some (.bool b)) (n := len) (fun i hi => by
      obtain ⟨h1, h2⟩ := hx i (by omega)
      obtain ⟨b, e1, e2⟩ := DataW.trod_bool Try.underlying4 h2
      simp only [List.cons.injEq, and_true] at e1
      exact ⟨b, by rw [h1, e1]⟩)
    refine ⟨some a, cap, (List.range len).map B, by simp, by simpa using hl, hm, fun i hi => ?_⟩
    simp only [List.length_map, List.length_range] at hi
    obtain ⟨b, off, spot⟩ := a
    have hspot : spot = none := by simpa [Addr.add] using World.cell?_spot (hB 0 (by omega))
    subst hspot
    have := hB i hi
    rw [add_plain] at this
    exact ⟨b, off, rfl, by rw [this]; simp⟩
set_option maxRecDepth 100000 in
theorem open_crash {r : Reach} {b0 : Nat} {base : Nat} {spare : Nat → Bool} {held : Bool} (hv : Value.okWide Try.prog W r b0 25 v) (h : DataW.Trod enc Try.prog W base spare held 25 v d p) :
    ∃ A c ks t y, v = .agg #[.slice A (ks : List Bool).length c, .int .i64 t, .int .i64 y] ∧ ks.length ≤ c ∧ c ≤ maxLen ∧ RdV W A (ks.map .bool) ∧ (-9223372036854775808 ≤ t ∧ t ≤ 9223372036854775807) ∧ (-9223372036854775808 ≤ y ∧ y ≤ 9223372036854775807) := by
  obtain ⟨v0, v1, v2, y0, y1, y2, n, rfl, -, -, h0, h1, h2⟩ := Go.Joins.open_agg3 Try.underlying25 (by kernel_rfl) (by kernel_rfl) hv h
  obtain ⟨A, c, ks, rfl, k1, k2, k3⟩ := open_boolsC h0
  obtain ⟨z1, e1, -, w1⟩ := DataW.trod_int Try.underlying3 h1
  obtain ⟨z2, e2, -, w2⟩ := DataW.trod_int Try.underlying3 h2
  simp only [List.cons.injEq, and_true] at e1 e2
  subst e1 e2
  exact ⟨A, c, ks, z1, z2, rfl, k1, k2, k3, wf_i64 w1, wf_i64 w2⟩
end
end Go.Proofs.Ytbedpjpddcjpkaa
