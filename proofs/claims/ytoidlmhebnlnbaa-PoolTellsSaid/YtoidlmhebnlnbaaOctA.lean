/- The walks through slices.Clone, Grow, Concat and what lays down numbers and words. -/
import Derived.Test.YtoidlmhebnlnbaaOctP
import Derived.Test.YtoidlmhebnlnbaaKit
import Derived.Lib.SliceRun
import Derived.Lib.AppendZeros
set_option linter.unusedVariables false
set_option linter.unusedSimpArgs false
namespace Go.Proofs.Ytoidlmhebnlnbaa
open Go.ChangeShapes Go.WideShapes Go.ChangeAt Go.RowKit

set_option maxRecDepth 100000 in
set_option maxHeartbeats 400000 in
theorem sl_Clone (xs : List Byte) (A : Option Addr) (n c : Nat) (w : World) (hn : n = xs.length) (hm : xs.length ≤ 140737488355328) (hr : Rd w A xs) :
    Calls Try.prog 30 #[.slice A n c] w fun e w' => ∃ A' c', e = .returned (.slice A' n c') ∧ Own w' w.heap.size (.slice A' n c') xs ∧ Below w.heap.size w w' := by
  subst hn
  have HR := Lib.hid hr
  clear hr
  cases A with
  | none =>
    have hx : xs = [] := by
      cases xs with
      | nil => rfl
      | cons y ys => obtain ⟨b, o, e, _⟩ := HR.out 0 (by simp [vbs]); cases e
    subst hx
    simp only [List.length_nil]
    have hq : ∀ W, (binOp .eql 29 (.slice none 0 c) (.slice none 0 0)).run Try.prog W = .ok (.bool true) W := fun W => Lib.run_eql_slice_nil W _ _ none _ c 0 0 Try.underlying29
    go_enter Try.func30, Try.ntmps30
    go_wp2
    go_ret
    exact ⟨none, 0, rfl, Own.nil _ _, Below.refl _ _⟩
  | some A =>
    have hq : ∀ W, (binOp .eql 29 (.slice (some A) xs.length c) (.slice none 0 0)).run Try.prog W = .ok (.bool false) W := fun W => Lib.run_eql_slice_nil W _ _ (some A) _ c 0 0 Try.underlying29
    go_enter Try.func30, Try.ntmps30
    go_wp2_with (at_builtin; refine wpList_append_bytes rfl _ _ rfl w.heap.size _ [] (OwnV.lit _ w [] (by simp)) rfl (some A) c xs rfl (HR.out.alloc _) (by simpa using hm) (by simp) ?_; intro v' w1 ho hg _; have HO := Lib.hid ho; have HG := Lib.hid hg; clear ho hg)
    go_ret
    have ho := HO.out
    rw [List.nil_append] at ho
    obtain ⟨A', c', e1, _⟩ := ho.form
    rw [e1] at ho
    exact ⟨A', c', by simp [e1], ho, (((Below.refl _ w).alloc (Nat.le_refl _) _).grown HG.out (by simp) (by simp [Value.ownBlock]))⟩

theorem lens_le (ls : List (List Byte)) (k : Nat) : (ls.take k).flatten.length ≤ ls.flatten.length := by
  conv => rhs; rw [← List.take_append_drop k ls]
  rw [List.flatten_append, List.length_append]; omega
theorem lens_succ (ls : List (List Byte)) (k : Nat) (h : k < ls.length) : (ls.take (k + 1)).flatten = (ls.take k).flatten ++ ls[k] := by
  rw [List.take_succ_eq_append_getElem h, List.flatten_append]; simp only [List.flatten_cons, List.flatten_nil, List.append_nil]

end Go.Proofs.Ytoidlmhebnlnbaa
