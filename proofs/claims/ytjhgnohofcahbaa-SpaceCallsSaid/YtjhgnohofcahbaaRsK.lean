/- space: what stands in memory in SpaceCalls; how long answers are. -/
import Derived.Test.YtjhgnohofcahbaaRsI
import Derived.Test.YtjhgnohofcahbaaRsJ
set_option linter.unusedVariables false
set_option linter.unusedSimpArgs false
namespace Go.Proofs.Ytjhgnohofcahbaa
open Go.ChangeShapes Go.WideShapes Go.ChangeAt Go.RowKit
set_option maxRecDepth 100000

structure CaW (w : World) (P : Int) (us : List Bool) (Q : Int) (vs : List Bool) (W : World) : Prop where
  fb : FB w W
  s : SpB W w.heap.size P us
  t : SpB W (w.heap.size + 1) Q vs
theorem CaW.go {w W W' : World} {P Q : Int} {us vs : List Bool} (h : CaW w P us Q vs W) (hb : FB W W') : CaW w P us Q vs W' := ⟨h.fb.trans hb, h.s.fb hb, h.t.fb hb⟩
theorem CaW.put {w W : World} {P Q P0 P1 : Int} {us vs us0 nx : List Bool} {g : Nat} {A : Option Addr} {c : Nat} (h : CaW w P us Q vs W) (hx : SpB W g P0 us0) (hg : w.heap.size + 1 < g) (hr : RdV W A (nx.map .bool)) (h1 : nx.length ≤ c) (h2 : c ≤ maxLen) :
    (Instr.storeAt 41 (.pointer (some ⟨g, 0, none⟩)) (.agg #[.int .i64 P1, .slice A nx.length c])).run Try.prog W = .ok () (W.setRow g #[.int .i64 P1, .slice A nx.length c])
      ∧ CaW w P us Q vs (W.setRow g #[.int .i64 P1, .slice A nx.length c]) ∧ SpB (W.setRow g #[.int .i64 P1, .slice A nx.length c]) g P1 nx
      ∧ ∀ g' P' us', g' ≠ g → SpB W g' P' us' → SpB (W.setRow g #[.int .i64 P1, .slice A nx.length c]) g' P' us' := by
  obtain ⟨A5, c5, hrow, hrd, hlc, hcm⟩ := hx
  have hts : TS [g] W (W.setRow g #[.int .i64 P1, .slice A nx.length c]) := ts_row g W _
  refine ⟨sp_store (.int .i64 P1) (.slice A nx.length c) hrow (by simp [Value.oneCell']), ⟨h.fb.setRow (g := g) (by omega) _, h.s.over hrow hts (by omega), h.t.over hrow hts (by omega)⟩, SpB.put hrow hr h1 h2, fun g' P' us' hn hs => hs.over hrow hts hn⟩
theorem spSame_self (P : Int) (us : List Bool) : spSame P us P us = true := by simp [spSame]
theorem spTake_len (P : Int) (us : List Bool) : (spTake P us).2.1.2.length ≤ us.length := by
  unfold spTake
  split
  · split <;> simp
  · simp
theorem spUse_len (P : Int) (us : List Bool) (k : Int) : (spUse P us k).2.1.length ≤ us.length := by
  unfold spUse
  split
  · split <;> simp
  · simp
theorem spGive_len (P : Int) (us : List Bool) (k : Int) : (spGive P us k).2.1.length ≤ us.length := by
  unfold spGive
  split
  · split <;> simp
  · simp
theorem spBoth_len (P Q : Int) (us vs : List Bool) : (spBoth P us Q vs).2.1.length ≤ us.length := by
  unfold spBoth
  split
  · simp [orL, orK_len]
  · simp
theorem spRead_lenM (b : List Byte) : (spRead b).2.1.length ≤ 4096 := by
  unfold spRead
  split
  · rename_i h; simp only [rdU_len]; exact h.2.2.1
  · simp
end Go.Proofs.Ytjhgnohofcahbaa
