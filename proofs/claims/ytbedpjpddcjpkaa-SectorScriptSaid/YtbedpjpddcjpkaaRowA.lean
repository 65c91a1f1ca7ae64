/- A list of acts as it comes in, opened. -/
import Derived.Test.YtbedpjpddcjpkaaRowC
set_option linter.unusedVariables false
set_option linter.unusedSimpArgs false
namespace Go.Proofs.Ytbedpjpddcjpkaa
open Go.ChangeShapes Go.WideShapes Go.ChangeAt Go.RowKit Go.Deep

/-- An act, as it lies. -/
structure ActV where
  K : Int
  At : Int
  V : Byte
  B : Byte
  N : Int
  KA : Option Addr
  kc : Nat
  ks : List Bool
  T : Int
  Y : Int
instance : Inhabited ActV := ⟨⟨0, 0, 0#8, 0#8, 0, none, 0, [], 0, 0⟩⟩
/-- May it be? -/
structure ActV.ok (a : ActV) : Prop where
  hK : -9223372036854775808 ≤ a.K ∧ a.K ≤ 9223372036854775807
  hAt : -9223372036854775808 ≤ a.At ∧ a.At ≤ 9223372036854775807
  hN : -9223372036854775808 ≤ a.N ∧ a.N ≤ 9223372036854775807
  hT : -9223372036854775808 ≤ a.T ∧ a.T ≤ 9223372036854775807
  hY : -9223372036854775808 ≤ a.Y ∧ a.Y ≤ 9223372036854775807
  k1 : a.ks.length ≤ a.kc
  k2 : a.kc ≤ maxLen
/-- One act, at an address. -/
structure ActAt (w : World) (b o : Nat) (a : ActV) : Prop where
  c0 : w.cell? ⟨b, o, none⟩ = some (.int .i64 a.K)
  c1 : w.cell? ⟨b, o + 1, none⟩ = some (.int .i64 a.At)
  c2 : w.cell? ⟨b, o + 2, none⟩ = some (.int .u8 (nb a.V))
  c3 : w.cell? ⟨b, o + 3, none⟩ = some (.int .u8 (nb a.B))
  c4 : w.cell? ⟨b, o + 4, none⟩ = some (.int .i64 a.N)
  c5 : w.cell? ⟨b, o + 5, none⟩ = some (.slice a.KA a.ks.length a.kc)
  c6 : w.cell? ⟨b, o + 6, none⟩ = some (.int .i64 a.T)
  c7 : w.cell? ⟨b, o + 7, none⟩ = some (.int .i64 a.Y)
  keep : RdV w a.KA (a.ks.map .bool)
theorem ActAt.fb {w w' : World} {b o : Nat} {a : ActV} (h : ActAt w b o a) (hf : FB w w') : ActAt w' b o a :=
  ⟨hf.cell h.c0, hf.cell h.c1, hf.cell h.c2, hf.cell h.c3, hf.cell h.c4, hf.cell h.c5, hf.cell h.c6, hf.cell h.c7, hf.rdV h.keep⟩
/-- So many acts, one behind the other. -/
def RdActs (w : World) (A : Option Addr) (l : List ActV) : Prop := ∀ i (h : i < l.length), ∃ b o, A = some ⟨b, o, none⟩ ∧ ActAt w b (o + i * 8) l[i]
theorem RdActs.fb {w w' : World} {A : Option Addr} {l : List ActV} (h : RdActs w A l) (hf : FB w w') : RdActs w' A l := fun i hi => by
  obtain ⟨b, o, h1, h2⟩ := h i hi
  exact ⟨b, o, h1, h2.fb hf⟩
section
variable {H : Type} {enc : TypeId × Value → H} {W : World} {v : Value} {d : DataW H} {p : List MemPlace}
set_option maxRecDepth 100000 in
theorem open_act {base : Nat} {spare : Nat → Bool} {held : Bool} {n : Nat} {cs : List Value} {y : DataW H × List MemPlace} (hl : cs.length = 8) (hf : DataW.trod enc Try.prog W base spare held n 38 cs = some y) :
    ∃ a : ActV, a.ok ∧ cs = [.int .i64 a.K, .int .i64 a.At, .int .u8 (nb a.V), .int .u8 (nb a.B), .int .i64 a.N, .slice a.KA a.ks.length a.kc, .int .i64 a.T, .int .i64 a.Y] ∧ RdV W a.KA (a.ks.map .bool) := by
  obtain ⟨xs, k, rfl, -, -, hxl, hfs⟩ := DataW.trod_struct Try.underlying38 hf
  match xs, hxl, cs, hl with
  | [y0, y1, y2, y3, y4, y5], _, [v0, v1, v2, v3, v4, v5, v6, v7], _ =>
    have c1 : Try.prog.cellsOf 3 = 1 := by kernel_rfl
    have c2 : Try.prog.cellsOf 5 = 1 := by kernel_rfl
    have c3 : Try.prog.cellsOf 25 = 3 := by kernel_rfl
    have c4 : Try.prog.cellsOf 23 = 1 := by kernel_rfl
    have g0 := hfs 0 _ rfl
    have g1 := hfs 1 _ rfl
    have g2 := hfs 2 _ rfl
    have g3 := hfs 3 _ rfl
    have g4 := hfs 4 _ rfl
    have g5 := hfs 5 _ rfl
    simp [c1, c2, c3] at g0 g1 g2 g3 g4 g5
    obtain ⟨zs, k', rfl, -, -, hzl, hzs⟩ := DataW.trod_struct Try.underlying25 g5
    match zs, hzl with
    | [z0, z1, z2], _ =>
      have q0 := hzs 0 _ rfl
      have q1 := hzs 1 _ rfl
      have q2 := hzs 2 _ rfl
      simp [c1, c4] at q0 q1 q2
      obtain ⟨a0, e0, -, w0⟩ := DataW.trod_int Try.underlying3 g0
      obtain ⟨a1, e1, -, w1⟩ := DataW.trod_int Try.underlying3 g1
      obtain ⟨a2, e2, -, w2⟩ := DataW.trod_int Try.underlying5 g2
      obtain ⟨a3, e3, -, w3⟩ := DataW.trod_int Try.underlying5 g3
      obtain ⟨a4, e4, -, w4⟩ := DataW.trod_int Try.underlying3 g4
      obtain ⟨KA, kc, ks, rfl, k1, k2, k3⟩ := open_boolsC q0
      obtain ⟨a6, e6, -, w6⟩ := DataW.trod_int Try.underlying3 q1
      obtain ⟨a7, e7, -, w7⟩ := DataW.trod_int Try.underlying3 q2
      obtain ⟨b2, rfl⟩ := wf_u8 w2
      obtain ⟨b3, rfl⟩ := wf_u8 w3
      simp only [List.cons.injEq, and_true] at e0 e1 e2 e3 e4 e6 e7
      subst e0 e1 e2 e3 e4 e6 e7
      exact ⟨⟨a0, a1, b2, b3, a4, KA, kc, ks, a6, a7⟩, ⟨wf_i64 w0, wf_i64 w1, wf_i64 w4, wf_i64 w6, wf_i64 w7, k1, k2⟩, rfl, k3⟩
set_option maxRecDepth 100000 in
theorem open_acts {r : Reach} {b0 : Nat} {base : Nat} {spare : Nat → Bool} {held : Bool} (hv : Value.okWide Try.prog W r b0 22 v) (h : DataW.Trod enc Try.prog W base spare held 22 v d p) :
    ∃ A c l, v = .slice A (l : List ActV).length c ∧ l.length ≤ c ∧ c ≤ maxLen ∧ RdActs W A l ∧ ∀ a ∈ l, a.ok := by
  obtain ⟨a, len, cap, rfl⟩ := okWide_slice Try.underlying22 hv
  obtain ⟨fuel, hf⟩ := h
  rcases open_slice Try.underlying22 hf with ⟨hcs, _⟩ | ⟨x, l, c, m, nn, D, Pl, hcs, _, hl, hm, hmm, _, hcell⟩
  · simp [Value.cells] at hcs
    obtain ⟨rfl, rfl, rfl⟩ := hcs
    exact ⟨none, 0, [], rfl, by simp, by simp [maxLen], fun i hi => absurd hi (by simp), by simp⟩
  · simp [Value.cells] at hcs
    obtain ⟨rfl, rfl, rfl⟩ := hcs
    have hlm : len ≤ m := by rw [hmm]; split <;> omega
    have ce : Try.prog.cellsOf 38 = 8 := by kernel_rfl
    rw [ce] at hcell
    obtain ⟨q, hq⟩ := choose_lt (α := ActV) (n := len) (p := fun i q => q.ok ∧ RdV W q.KA (q.ks.map .bool) ∧ ∃ cs', cs' = [Value.int .i64 q.K, .int .i64 q.At, .int .u8 (nb q.V), .int .u8 (nb q.B), .int .i64 q.N, .slice q.KA q.ks.length q.kc, .int .i64 q.T, .int .i64 q.Y] ∧ ∀ j, j < 8 → W.cell? ((x.add (i * 8)).add j) = cs'[j]?) (fun i hi => by
      obtain ⟨cs', h1, h2⟩ := hcell i (by omega)
      obtain ⟨-, hlen, hc⟩ := World.cells?_some h1
      obtain ⟨q, q1, q2, q3⟩ := open_act hlen h2
      exact ⟨q, q1, q3, cs', q2, hc⟩)
    obtain ⟨b, off, spot⟩ := x
    refine ⟨some ⟨b, off, spot⟩, cap, (List.range len).map q, by simp, by simpa using hl, hm, fun i hi => ?_, fun y hy => ?_⟩
    · simp only [List.length_map, List.length_range] at hi
      have hspot : spot = none := by
        obtain ⟨-, -, cs', e, hc⟩ := hq 0 (by omega)
        have := hc 0 (by omega)
        rw [e] at this
        simpa [Addr.add] using World.cell?_spot this
      subst hspot
      obtain ⟨-, q2, cs', e, hc⟩ := hq i hi
      subst e
      simp only [add_plain] at hc
      refine ⟨b, off, rfl, ?_⟩
      simp only [List.getElem_map, List.getElem_range]
      exact ⟨by simpa using hc 0 (by omega), by simpa using hc 1 (by omega), by simpa using hc 2 (by omega), by simpa using hc 3 (by omega), by simpa using hc 4 (by omega), by simpa using hc 5 (by omega), by simpa using hc 6 (by omega), by simpa using hc 7 (by omega), q2⟩
    · obtain ⟨i, hi, rfl⟩ := List.mem_map.1 hy
      exact (hq i (by simpa using hi)).1
end
end Go.Proofs.Ytbedpjpddcjpkaa
