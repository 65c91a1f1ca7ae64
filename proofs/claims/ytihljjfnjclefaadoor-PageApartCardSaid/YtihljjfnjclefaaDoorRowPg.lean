/- A page as it comes in, opened. -/
import Derived.Test.YtihljjfnjclefaaDoorRow
import Derived.Lib.SmallJoins
set_option linter.unusedVariables false
set_option linter.unusedSimpArgs false
namespace Go.Proofs.YtihljjfnjclefaaDoor
open Go.ChangeShapes Go.WideShapes Go.ChangeAt Go.RowKit

section
variable {H : Type} {enc : TypeId × Value → H} {W : World} {v : Value} {d : DataW H} {p : List MemPlace}
set_option maxRecDepth 100000 in
theorem open_bytesC {base : Nat} {spare : Nat → Bool} {held : Bool} {n : Nat} {y : DataW H × List MemPlace} (hf : DataW.trod enc Tryd.prog W base spare held n 23 [v] = some y) :
    ∃ A c xs, v = .slice A (xs : List Byte).length c ∧ xs.length ≤ c ∧ c ≤ maxLen ∧ Rd W A xs := by
  rcases open_ints Tryd.underlying23 Tryd.underlying5 (by kernel_rfl) hf with ⟨hcs, _⟩ | ⟨x, len, cap, zs, hcs, _, hl, hm, hz, _, hcell, hwz⟩
  · simp at hcs
    subst hcs
    exact ⟨none, 0, [], rfl, by simp, by simp [maxLen], Rd.nil _ _⟩
  · simp at hcs
    subst hcs
    have hlz : len ≤ zs.length := by rw [hz]; split <;> omega
    refine ⟨some x, cap, (zs.take len).map (BitVec.ofInt 8), ?_, ?_, hm, ?_⟩
    · simp [Nat.min_eq_left hlz]
    · simp [Nat.min_eq_left hlz, hl]
    · intro i hi
      simp only [vbs_length, List.length_map, List.length_take, Nat.min_eq_left hlz] at hi
      obtain ⟨b, off, rfl, hc⟩ := ints_at hcell (by omega)
      refine ⟨b, off, rfl, ?_⟩
      rw [hc i (by omega)]
      have hmem : zs.getD i 0 ∈ zs := by simp [List.getD, show i < zs.length by omega]
      have hw := hwz _ hmem
      have hb : 0 ≤ zs.getD i 0 ∧ zs.getD i 0 ≤ 255 := by simpa [Lit.wf, IntKind.min, IntKind.max, IntKind.signed, IntKind.bits] using hw
      rw [vbs_get _ _ (by simp; omega)]
      simp only [List.getElem_map, List.getElem_take, vb]
      rw [nb_ofInt _ (by have := hb.1; simp [List.getD, show i < zs.length by omega] at this ⊢; exact this) (by have := hb.2; simp [List.getD, show i < zs.length by omega] at this ⊢; omega)]
      simp [List.getD, show i < zs.length by omega]
set_option maxRecDepth 100000 in
theorem open_page {r : Reach} {b0 : Nat} {base : Nat} {spare : Nat → Bool} {held : Bool} (hv : Value.okWide Tryd.prog W r b0 25 v) (h : DataW.Trod enc Tryd.prog W base spare held 25 v d p) :
    ∃ K nn A c x, v = .agg #[.int .i64 K, .int .u32 (nb (nn : BitVec 32)), .slice A (x : List Byte).length c] ∧ x.length ≤ c ∧ c ≤ maxLen ∧ Rd W A x ∧ (-9223372036854775808 ≤ K ∧ K ≤ 9223372036854775807) := by
  obtain ⟨v0, v1, v2, y0, y1, y2, n, rfl, -, -, h0, h1, h2⟩ := Go.Joins.open_agg3 Tryd.underlying25 (by kernel_rfl) (by kernel_rfl) hv h
  obtain ⟨A, c, x, rfl, k1, k2, k3⟩ := open_bytesC h2
  obtain ⟨z1, e1, -, w1⟩ := DataW.trod_int Tryd.underlying3 h0
  obtain ⟨z2, e2, -, w2⟩ := DataW.trod_int Tryd.underlying22 h1
  simp only [List.cons.injEq, and_true] at e1 e2
  subst e1 e2
  obtain ⟨nn, rfl⟩ := wf_u32 w2
  exact ⟨z1, nn, A, c, x, rfl, k1, k2, k3, wf_i64 w1⟩
end
end Go.Proofs.YtihljjfnjclefaaDoor
