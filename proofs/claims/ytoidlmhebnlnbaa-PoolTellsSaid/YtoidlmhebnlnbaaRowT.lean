/- A list of acts (of the pool) as it comes in, opened. -/
import Derived.Test.YtoidlmhebnlnbaaRow
import Derived.Lib.SmallJoins
import Derived.Deep.Slices
set_option linter.unusedVariables false
set_option linter.unusedSimpArgs false
namespace Go.Proofs.Ytoidlmhebnlnbaa
open Go.ChangeShapes Go.WideShapes Go.ChangeAt Go.RowKit Go.Deep

/-- An act, as it lies. -/
structure PActV where
  K : Int
  N : Int
  V : Byte
instance : Inhabited PActV := ⟨⟨0, 0, 0#8⟩⟩
/-- May it be? -/
structure PActV.ok (a : PActV) : Prop where
  hK : -9223372036854775808 ≤ a.K ∧ a.K ≤ 9223372036854775807
  hN : -9223372036854775808 ≤ a.N ∧ a.N ≤ 9223372036854775807
/-- One act, at an address. -/
structure PActAt (w : World) (b o : Nat) (a : PActV) : Prop where
  c0 : w.cell? ⟨b, o, none⟩ = some (.int .i64 a.K)
  c1 : w.cell? ⟨b, o + 1, none⟩ = some (.int .i64 a.N)
  c2 : w.cell? ⟨b, o + 2, none⟩ = some (.int .u8 (nb a.V))
theorem PActAt.fb {w w' : World} {b o : Nat} {a : PActV} (h : PActAt w b o a) (hf : FB w w') : PActAt w' b o a := ⟨hf.cell h.c0, hf.cell h.c1, hf.cell h.c2⟩
/-- So many acts, one behind the other. -/
def RdPActs (w : World) (A : Option Addr) (l : List PActV) : Prop := ∀ i (h : i < l.length), ∃ b o, A = some ⟨b, o, none⟩ ∧ PActAt w b (o + i * 3) l[i]
theorem RdPActs.fb {w w' : World} {A : Option Addr} {l : List PActV} (h : RdPActs w A l) (hf : FB w w') : RdPActs w' A l := fun i hi => by
  obtain ⟨b, o, h1, h2⟩ := h i hi
  exact ⟨b, o, h1, h2.fb hf⟩
section
variable {H : Type} {enc : TypeId × Value → H} {W : World} {v : Value} {d : DataW H} {p : List MemPlace}
set_option maxRecDepth 100000 in
theorem open_pact {base : Nat} {spare : Nat → Bool} {held : Bool} {n : Nat} {cs : List Value} {y : DataW H × List MemPlace} (hl : cs.length = 3) (hf : DataW.trod enc Try.prog W base spare held n 39 cs = some y) :
    ∃ a : PActV, a.ok ∧ cs = [.int .i64 a.K, .int .i64 a.N, .int .u8 (nb a.V)] := by
  obtain ⟨xs, k, rfl, -, -, hxl, hfs⟩ := DataW.trod_struct Try.underlying39 hf
  match xs, hxl, cs, hl with
  | [y0, y1, y2], _, [v0, v1, v2], _ =>
    have c1 : Try.prog.cellsOf 3 = 1 := by kernel_rfl
    have c2 : Try.prog.cellsOf 5 = 1 := by kernel_rfl
    have g0 := hfs 0 _ rfl
    have g1 := hfs 1 _ rfl
    have g2 := hfs 2 _ rfl
    simp [c1, c2] at g0 g1 g2
    obtain ⟨a0, e0, -, w0⟩ := DataW.trod_int Try.underlying3 g0
    obtain ⟨a1, e1, -, w1⟩ := DataW.trod_int Try.underlying3 g1
    obtain ⟨a2, e2, -, w2⟩ := DataW.trod_int Try.underlying5 g2
    obtain ⟨b2, rfl⟩ := wf_u8 w2
    simp only [List.cons.injEq, and_true] at e0 e1 e2
    subst e0 e1 e2
    exact ⟨⟨a0, a1, b2⟩, ⟨wf_i64 w0, wf_i64 w1⟩, rfl⟩
set_option maxRecDepth 100000 in
theorem open_pacts {r : Reach} {b0 : Nat} {base : Nat} {spare : Nat → Bool} {held : Bool} (hv : Value.okWide Try.prog W r b0 35 v) (h : DataW.Trod enc Try.prog W base spare held 35 v d p) :
    ∃ A c l, v = .slice A (l : List PActV).length c ∧ l.length ≤ c ∧ c ≤ maxLen ∧ RdPActs W A l ∧ ∀ a ∈ l, a.ok := by
  obtain ⟨a, len, cap, rfl⟩ := okWide_slice Try.underlying35 hv
  obtain ⟨fuel, hf⟩ := h
  rcases open_slice Try.underlying35 hf with ⟨hcs, _⟩ | ⟨x, l, c, m, nn, D, Pl, hcs, _, hl, hm, hmm, _, hcell⟩
  · simp [Value.cells] at hcs
    obtain ⟨rfl, rfl, rfl⟩ := hcs
    exact ⟨none, 0, [], rfl, by simp, by simp [maxLen], fun i hi => absurd hi (by simp), by simp⟩
  · simp [Value.cells] at hcs
    obtain ⟨rfl, rfl, rfl⟩ := hcs
    have hlm : len ≤ m := by rw [hmm]; split <;> omega
    have ce : Try.prog.cellsOf 39 = 3 := by kernel_rfl
    rw [ce] at hcell
    obtain ⟨q, hq⟩ := choose_lt (α := PActV) (n := len) (p := fun i q => q.ok ∧ ∃ cs', cs' = [Value.int .i64 q.K, .int .i64 q.N, .int .u8 (nb q.V)] ∧ ∀ j, j < 3 → W.cell? ((x.add (i * 3)).add j) = cs'[j]?) (fun i hi => by
      obtain ⟨cs', h1, h2⟩ := hcell i (by omega)
      obtain ⟨-, hlen, hc⟩ := World.cells?_some h1
      obtain ⟨q, q1, q2⟩ := open_pact hlen h2
      exact ⟨q, q1, cs', q2, hc⟩)
    obtain ⟨b, off, spot⟩ := x
    refine ⟨some ⟨b, off, spot⟩, cap, (List.range len).map q, by simp, by simpa using hl, hm, fun i hi => ?_, fun y hy => ?_⟩
    · simp only [List.length_map, List.length_range] at hi
      have hspot : spot = none := by
        obtain ⟨-, cs', e, hc⟩ := hq 0 (by omega)
        have := hc 0 (by omega)
        rw [e] at this
        simpa [Addr.add] using World.cell?_spot this
      subst hspot
      obtain ⟨-, cs', e, hc⟩ := hq i hi
      subst e
      simp only [add_plain] at hc
      refine ⟨b, off, rfl, ?_⟩
      simp only [List.getElem_map, List.getElem_range]
      exact ⟨by simpa using hc 0 (by omega), by simpa using hc 1 (by omega), by simpa using hc 2 (by omega)⟩
    · obtain ⟨i, hi, rfl⟩ := List.mem_map.1 hy
      exact (hq i (by simpa using hi)).1
end
end Go.Proofs.Ytoidlmhebnlnbaa
