/- A slice of structs of two integers, as it comes in, opened. -/
import Derived.Test.YtegmpejcolmnoaaRow
import Derived.Deep.SlicePairs
set_option linter.unusedVariables false
set_option linter.unusedSimpArgs false
namespace Go.Proofs.Ytegmpejcolmnoaa
open Go.ChangeShapes Go.WideShapes Go.ChangeAt Go.RowKit Go.Deep

section
variable {H : Type} {enc : TypeId × Value → H} {W : World} {v : Value} {d : DataW H} {p : List MemPlace}
/-- What lies there: so many pairs. -/
def RdP (w : World) (A : Option Addr) (n : Nat) (K N : Nat → Int) : Prop := ∀ i, i < n → ∃ b o, A = some ⟨b, o, none⟩ ∧ w.cell? ⟨b, o + i * 2, none⟩ = some (.int .i64 (K i)) ∧ w.cell? ⟨b, o + i * 2 + 1, none⟩ = some (.int .i64 (N i))
theorem RdP.fb {w w' : World} {A : Option Addr} {n : Nat} {K N : Nat → Int} (h : RdP w A n K N) (hf : FB w w') : RdP w' A n K N := fun i hi => by
  obtain ⟨b, o, h1, h2, h3⟩ := h i hi
  exact ⟨b, o, h1, hf.cell h2, hf.cell h3⟩
theorem open_pairs {r : Reach} {b0 : Nat} {base : Nat} {spare : Nat → Bool} {held : Bool} (hv : Value.okWide Try.prog W r b0 55 v) (h : DataW.Trod enc Try.prog W base spare held 55 v d p) :
    ∃ A n c K N, v = .slice A n c ∧ n ≤ c ∧ c ≤ maxLen ∧ RdP W A n K N ∧ ∀ i, i < n → (-9223372036854775808 ≤ K i ∧ K i ≤ 9223372036854775807) ∧ (-9223372036854775808 ≤ N i ∧ N i ≤ 9223372036854775807) := by
  obtain ⟨a, len, cap, rfl⟩ := okWide_slice Try.underlying55 hv
  obtain ⟨fuel, hf⟩ := h
  rcases open_slice_pairs Try.underlying55 Try.underlying57 (by kernel_rfl) rfl rfl (by kernel_rfl) (by kernel_rfl) hf with ⟨hcs, _⟩ | ⟨x, l, c, m, nn, V0, V1, D0, D1, P0, P1, hcs, _, hl, hm, hmm, _, hcell⟩
  · simp [Value.cells] at hcs
    obtain ⟨rfl, rfl, rfl⟩ := hcs
    exact ⟨none, 0, 0, fun _ => 0, fun _ => 0, rfl, by simp, by simp [maxLen], fun i hi => absurd hi (by omega), fun i hi => absurd hi (by omega)⟩
  · simp [Value.cells] at hcs
    obtain ⟨rfl, rfl, rfl⟩ := hcs
    have hlm : len ≤ m := by rw [hmm]; split <;> omega
    have each : ∀ i, i < len → ∃ q : Int × Int, W.cell? (x.add (i * 2)) = some (.int .i64 q.1) ∧ W.cell? (x.add (i * 2 + 1)) = some (.int .i64 q.2) ∧ (-9223372036854775808 ≤ q.1 ∧ q.1 ≤ 9223372036854775807) ∧ (-9223372036854775808 ≤ q.2 ∧ q.2 ≤ 9223372036854775807) := by
      intro i hi
      obtain ⟨h1, h2, h3, h4⟩ := hcell i (by omega)
      obtain ⟨z0, e0, -, w0⟩ := DataW.trod_int Try.underlying3 h3
      obtain ⟨z1, e1, -, w1⟩ := DataW.trod_int Try.underlying3 h4
      simp only [List.cons.injEq, and_true] at e0 e1
      rw [e0] at h1
      rw [e1] at h2
      exact ⟨(z0, z1), h1, h2, wf_i64 w0, wf_i64 w1⟩
    obtain ⟨q, hq⟩ := choose_lt each
    refine ⟨some x, len, cap, fun i => (q i).1, fun i => (q i).2, rfl, hl, hm, fun i hi => ?_, fun i hi => ⟨(hq i hi).2.2.1, (hq i hi).2.2.2⟩⟩
    obtain ⟨h1, h2, -, -⟩ := hq i hi
    obtain ⟨b, off, spot⟩ := x
    have hspot : spot = none := by simpa [Addr.add] using World.cell?_spot (hq 0 (by omega)).1
    subst hspot
    rw [add_plain] at h1 h2
    exact ⟨b, off, rfl, h1, by rw [Nat.add_assoc]; exact h2⟩
end
end Go.Proofs.Ytegmpejcolmnoaa
