/- A space as it comes in, opened. -/
import Derived.Test.YtjhgnohofcahbaaRow
import Derived.Lib.SmallJoins
import Derived.Deep.Slices
set_option linter.unusedVariables false
set_option linter.unusedSimpArgs false
namespace Go.Proofs.Ytjhgnohofcahbaa
open Go.ChangeShapes Go.WideShapes Go.ChangeAt Go.RowKit Go.Deep

section
variable {H : Type} {enc : TypeId × Value → H} {W : World} {v : Value} {d : DataW H} {p : List MemPlace}
set_option maxRecDepth 100000 in
theorem open_boolsS {base : Nat} {spare : Nat → Bool} {held : Bool} {n : Nat} {y : DataW H × List MemPlace} (hf : DataW.trod enc Try.prog W base spare held n 39 [v] = some y) :
    ∃ A c xs, v = .slice A (xs : List Bool).length c ∧ xs.length ≤ c ∧ c ≤ maxLen ∧ RdV W A (xs.map .bool) := by
  rcases open_slice1 Try.underlying39 (by kernel_rfl) hf with ⟨hcs, _⟩ | ⟨a, len, cap, m, nn, V, D, Pl, hcs, _, hl, hm, hmm, _, hx⟩
  · simp at hcs
    subst hcs
    exact ⟨none, 0, [], rfl, by simp, by simp [maxLen], RdV.nil _ _⟩
  · simp at hcs
    subst hcs
    have hlm : len ≤ m := by rw [hmm]; split <;> omega
    obtain ⟨B, hB⟩ := choose_lt (α := Bool) (p := fun i b => W.cell? (a.add i) = some (.bool b)) (n := len) (fun i hi => by
      obtain ⟨h1, h2⟩ := hx i (by omega)
      obtain ⟨b, e1, e2⟩ := DataW.trod_bool Try.underlying4 h2
      simp only [List.cons.injEq, and_true] at e1
      exact ⟨b, by rw [h1, e1]⟩)
    refine ⟨some a, cap, (List.range len).map B, by simp, by simpa using hl, hm, fun i hi => ?_⟩
    simp only [List.length_map, List.length_range] at hi
    obtain ⟨b, off, spot⟩ := a
    have hspot : spot = none := by simpa [Addr.add] using World.cell?_spot (hB 0 (by omega))
    subst hspot
    have := hB i hi
    rw [add_plain] at this
    exact ⟨b, off, rfl, by rw [this]; simp⟩
set_option maxRecDepth 100000 in
theorem open_space {r : Reach} {b0 : Nat} {base : Nat} {spare : Nat → Bool} {held : Bool} (hv : Value.okWide Try.prog W r b0 41 v) (h : DataW.Trod enc Try.prog W base spare held 41 v d p) :
    ∃ P A c us, v = .agg #[.int .i64 P, .slice A (us : List Bool).length c] ∧ us.length ≤ c ∧ c ≤ maxLen ∧ RdV W A (us.map .bool) ∧ (-9223372036854775808 ≤ P ∧ P ≤ 9223372036854775807) := by
  obtain ⟨v0, v1, y0, y1, n, rfl, -, -, h0, h1⟩ := Go.Joins.open_agg2 Try.underlying41 (by kernel_rfl) (by kernel_rfl) hv h
  obtain ⟨A, c, us, rfl, k1, k2, k3⟩ := open_boolsS h1
  obtain ⟨z1, e1, -, w1⟩ := DataW.trod_int Try.underlying3 h0
  simp only [List.cons.injEq, and_true] at e1
  subst e1
  exact ⟨z1, A, c, us, rfl, k1, k2, k3, wf_i64 w1⟩
end
end Go.Proofs.Ytjhgnohofcahbaa
