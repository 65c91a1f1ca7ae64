/- What may turn between two worlds: some blocks. -/
import Derived.Test.YtoidlmhebnlnbaaTb
set_option linter.unusedVariables false
set_option linter.unusedSimpArgs false
namespace Go.Proofs.Ytoidlmhebnlnbaa
open Go.ChangeShapes Go.WideShapes Go.ChangeAt Go.RowKit

/-- w' has come out of w: what was there is as it was, but for these blocks. -/
structure TS (F : List Nat) (w w' : World) : Prop where
  os : w'.os = w.os
  tape : w'.tape = w.tape
  output : w'.output = w.output
  size : w.heap.size ≤ w'.heap.size
  block : ∀ k, k < w.heap.size → k ∉ F → w'.heap[k]? = w.heap[k]?
theorem TS.refl (F : List Nat) (w : World) : TS F w w := ⟨rfl, rfl, rfl, Nat.le_refl _, fun _ _ _ => rfl⟩
theorem TS.of {F : List Nat} {w w' : World} (h : FB w w') : TS F w w' := ⟨h.os, h.tape, h.output, h.size, fun k hk _ => h.out.block k hk⟩
theorem TS.tb {F : List Nat} {g : Nat} {w w' : World} (h : TB g w w') (hg : g ∈ F) : TS F w w' := ⟨h.os, h.tape, h.output, h.size, fun k hk hn => h.out.block k hk (fun e => by simp at e; subst e; exact hn hg)⟩
theorem TS.trans {F F' : List Nat} {a b c : World} (h : TS F a b) (k : TS F' b c) (hf : ∀ x ∈ F', x ∈ F ∨ a.heap.size ≤ x) : TS F a c :=
  ⟨k.os.trans h.os, k.tape.trans h.tape, k.output.trans h.output, Nat.le_trans h.size k.size, fun x hx hn => (k.block x (Nat.lt_of_lt_of_le hx h.size) (fun hm => by rcases hf x hm with h | h; exact hn h; omega)).trans (h.block x hx hn)⟩
theorem TS.then {F : List Nat} {a b c : World} (h : TS F a b) (k : TS F b c) : TS F a c := h.trans k (fun x hx => .inl hx)
theorem FB.ts {w0 w w' : World} {F : List Nat} (h : FB w0 w) (k : TS F w w') (hf : ∀ x ∈ F, w0.heap.size ≤ x) : FB w0 w' :=
  ⟨k.os.trans h.out.os, k.tape.trans h.out.tape, k.output.trans h.out.output, Nat.le_trans h.le k.size, fun x hx => (k.block x (Nat.lt_of_lt_of_le hx h.le) (fun hm => by have := hf x hm; omega)).trans (h.block x hx)⟩
theorem TS.cell {F : List Nat} {w w' : World} (h : TS F w w') {a : Addr} {v : Value} (hc : w.cell? a = some v) (ha : a.block ∉ F) : w'.cell? a = some v := by
  exact (World.cell?_of_block (w := w) (h.block a.block (World.block_lt_of_cell? w a hc) ha)).trans hc
theorem TS.rd {F : List Nat} {w w' : World} (h : TS F w w') {A : Option Addr} {xs : List Byte} (hr : Rd w A xs) (ha : ∀ ad, A = some ad → ad.block ∉ F) : Rd w' A xs :=
  RdV.move hr fun a v e hc => h.cell hc (by
    cases A with
    | none => cases e
    | some ad => simp at e; have := ha ad rfl; rw [← e]; exact this)
theorem TS.ownV {F : List Nat} {e : TypeId} {w w' : World} (h : TS F w w') {base : Nat} {v : Value} {vs : List Value} (hr : OwnV e w base v vs) (ha : ∀ k, v.ownBlock = some k → k ∉ F) : OwnV e w' base v vs := by
  unfold OwnV at *
  rcases hr with ⟨h1, h2 | ⟨g, cap, cur, h3, h4, h5, h6⟩⟩
  · exact ⟨h1, .inl h2⟩
  · refine ⟨h1, .inr ⟨g, cap, cur, h3, h4, ?_, h6⟩⟩
    rw [h.block g (Array.getElem?_eq_some_iff.1 h5).1 (ha g (by rw [h3]; rfl))]
    exact h5
theorem TS.rdV {F : List Nat} {w w' : World} (h : TS F w w') {A : Option Addr} {vs : List Value} (hr : RdV w A vs) (ha : ∀ ad, A = some ad → ad.block ∉ F) : RdV w' A vs :=
  RdV.move hr fun a v e hc => h.cell hc (by
    cases A with
    | none => cases e
    | some ad => simp at e; have := ha ad rfl; rw [← e]; exact this)
end Go.Proofs.Ytoidlmhebnlnbaa
