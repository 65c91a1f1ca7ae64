/- What may turn between two worlds: one block. -/
import Derived.Test.YtoidlmhebnlnbaaM
import Derived.Maps.AppendAt
set_option linter.unusedVariables false
set_option linter.unusedSimpArgs false
namespace Go.Proofs.Ytoidlmhebnlnbaa
open Go.ChangeShapes Go.WideShapes Go.ChangeAt Go.RowKit

/-- w' has come out of w: what was there is as it was, but for block g. -/
def TB (g : Nat) (w w' : World) : Prop := w.grownBy w' (some g)
theorem TB.refl (g : Nat) (w : World) : TB g w w := ⟨rfl, rfl, rfl, Nat.le_refl _, fun _ _ _ => rfl⟩
theorem TB.trans {g : Nat} {a b c : World} (h : TB g a b) (k : TB g b c) : TB g a c := World.grownBy.trans h k
theorem TB.le {g : Nat} {a b : World} (h : TB g a b) : a.heap.size ≤ b.heap.size := h.size
theorem TB.of {g : Nat} {a b : World} (h : FB a b) : TB g a b := ⟨h.os, h.tape, h.output, h.size, fun k hk _ => h.out.block k hk⟩
theorem TB.fb {g : Nat} {a b c : World} (h : TB g a b) (k : FB b c) : TB g a c := h.trans (TB.of k)
theorem TB.out {g : Nat} {a b : World} (h : TB g a b) : a.grownBy b (some g) := h
theorem FB.tb {w0 w w' : World} {g : Nat} (h : FB w0 w) (k : TB g w w') (hg : w0.heap.size ≤ g) : FB w0 w' := h.grown k (fun j hj => by cases hj; exact hg)
theorem TB.set {g : Nat} (w : World) (i : Nat) (v : Value) : TB g w (w.setCell ⟨g, i, none⟩ v) :=
  ⟨rfl, rfl, rfl, by simp, fun k _ hk => heap_setCell_other w _ k v (fun e => hk (by simp [e]))⟩
theorem TB.rd {g : Nat} {w w' : World} (h : TB g w w') {A : Option Addr} {xs : List Byte} (hr : Rd w A xs) (ha : ∀ ad, A = some ad → ad.block ≠ g) : Rd w' A xs :=
  RdV.move hr fun a v e hc => h.out.cell hc (by
    cases A with
    | none => cases e
    | some ad => simp at e; have := ha ad rfl; simp; omega)
theorem TB.own {g : Nat} {w w' : World} (h : TB g w w') {base : Nat} {v : Value} {xs : List Byte} (hr : Own w base v xs) (ha : g < base) : Own w' base v xs :=
  OwnV.grown hr h (by
    cases hv : v.ownBlock with
    | none => exact .inl rfl
    | some k => right; have := Own.bnd hr k hv; simp; omega)

theorem frozen_row (w : World) {g : Nat} {cs : Array Value} {t : TypeId} (h : w.heap[g]? = some (.cells cs t (0, 0))) (j : Nat) : w.frozen? ⟨g, j, none⟩ = false := by simp [World.frozen?, h]
end Go.Proofs.Ytoidlmhebnlnbaa
