/- make([]byte, n): noughts. -/
import Derived.Test.YtoidlmhebnlnbaaM
import Derived.Laws.OwnMore
set_option linter.unusedVariables false
set_option linter.unusedSimpArgs false
namespace Go.Proofs.Ytoidlmhebnlnbaa
open Go.ChangeShapes Go.WideShapes Go.ChangeAt Go.RowKit

theorem vbs_zeros (n : Nat) : vbs (List.replicate n 0#8) = List.replicate n (.int .u8 0) := by simp [vbs, vb, nb]
theorem mk_bytes (k : Int) (n : Nat) (hk : k = n) (hn : n ≤ 1000000000) : ∃ C : Array Value,
    (∀ W : World, (Instr.makeSlice 29 (.int .i64 k) (.int .i64 k)).run Try.prog W = .ok (.slice (some ⟨W.heap.size, 0, none⟩) n n) (W.alloc (.cells C 5))) ∧
    C = (vbs (List.replicate n 0#8)).toArray := by
  subst hk
  obtain ⟨i, hi, hz, hsz, hb⟩ := info_parts info_u8
  refine ⟨madeCells #[.int .u8 0] n, fun W => ?_, ?_⟩
  · have h := run_make (P := Try.prog) W 29 5 i _ Try.underlying29 hi hz .i64 .i64 (n : Int) (n : Int) (by omega) (Int.le_refl _) (by rw [hb]; omega) (by omega)
    rw [hsz] at h
    simpa [Value.cells] using h
  · rw [vbs_zeros, ← toList_madeCells_one]
theorem rd_mk {C : Array Value} {n : Nat} (hC : C = (vbs (List.replicate n 0#8)).toArray) (W : World) (g : Nat) (hg : g = W.heap.size) : Rd (W.alloc (.cells C 5)) (some ⟨g, 0, none⟩) (List.replicate n 0#8) := by
  subst hC; exact RdV.lit W _ _ hg
end Go.Proofs.Ytoidlmhebnlnbaa
