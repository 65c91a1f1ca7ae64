/- Strings: bytes as a string, a string as bytes. -/
import Derived.Test.YtoidlmhebnlnbaaM
import Derived.Laws.IdiomStrings
import Derived.Lib.BufferRead
set_option linter.unusedVariables false
set_option linter.unusedSimpArgs false
namespace Go.Proofs.Ytoidlmhebnlnbaa
open Go.ChangeShapes Go.WideShapes Go.ChangeAt Go.RowKit

/-- These bytes as a string. A plain definition. -/
def sb (xs : List Byte) : ByteArray := ⟨(xs.map UInt8.ofBitVec).toArray⟩
theorem sb_size (xs : List Byte) : (sb xs).size = xs.length := by simp [sb, ByteArray.size]
theorem sb_inj {xs ys : List Byte} : sb xs = sb ys ↔ xs = ys := by
  constructor
  · intro h
    simp only [sb, ByteArray.mk.injEq] at h
    have h := congrArg Array.toList h
    simp only [List.toList_toArray] at h
    exact (List.map_inj_right (fun a b e => by cases e; rfl)).1 h
  · rintro rfl; rfl
theorem bytes_toList_inj {a b : ByteArray} (h : a.toList = b.toList) : a = b := by
  rw [ByteArray.toList_eq, ByteArray.toList_eq] at h
  have h2 := Array.toList_inj.1 h
  cases a; cases b; exact congrArg _ h2
theorem sb_beq (xs ys : List Byte) : ((sb xs).toList == (sb ys).toList) = (xs == ys) := by
  rw [Bool.eq_iff_iff]
  simp only [beq_iff_eq]
  exact ⟨fun h => sb_inj.1 (bytes_toList_inj h), fun h => by rw [h]⟩

theorem run_string {w : World} {A : Option Addr} {xs : List Byte} (c : Nat) (hr : Rd w A xs) : (convert 29 9 (.slice A xs.length c)).run Try.prog w = .ok (.string (sb xs)) w := by
  cases A with
  | none =>
    have hx : xs = [] := by
      cases xs with
      | nil => rfl
      | cons y ys => obtain ⟨b, o, e, _⟩ := hr 0 (by simp [vbs]); cases e
    subst hx
    exact Lib.run_convert_nil_bytes w 29 9 5 c Try.underlying29 Try.underlying5 Try.underlying9
  | some ad =>
    have h := run_convert_bytes_back (P := Try.prog) w 29 9 5 ad c (xs.map UInt8.ofBitVec) Try.underlying29 Try.underlying5 Try.underlying9 (fun j hj => by
      rw [List.length_map] at hj
      have := RdV.adds hr j (vb xs[j]) (by rw [vbs_get? xs j hj])
      rw [this]
      simp [vb, nb])
    rw [List.length_map] at h
    exact h
theorem run_bytes (w : World) (xs : List Byte) (hl : xs.length ≤ maxLen) : ∃ c W', (convert 9 29 (.string (sb xs))).run Try.prog w = .ok (.slice (some ⟨w.heap.size, 0, none⟩) xs.length c) W' ∧ Rd W' (some ⟨w.heap.size, 0, none⟩) xs ∧ FB w W' ∧ xs.length ≤ c ∧ c ≤ maxLen := by
  have h := run_bytes_of_string (P := Try.prog) w 9 29 5 (sb xs) Try.underlying9 Try.underlying29 Try.underlying5
  rw [sb_size] at h
  refine ⟨_, _, h, ?_, ((FB.refl w).drew).alloc _, grownCap_ge w _ _ _, grownCap_le_maxLen w _ 0 _ (by rw [maxLen_eq] at hl; rw [maxLen_eq]; omega)⟩
  intro i hi
  rw [vbs_length] at hi
  refine ⟨w.heap.size, 0, rfl, ?_⟩
  have hnew := heap_alloc_new w.drew (.cells (bytesRow (sb xs) (grownCap w xs.length 0 5)) 5 ((bytesRow (sb xs) (grownCap w xs.length 0 5)).size, (bytesRow (sb xs) (grownCap w xs.length 0 5)).size + 1))
  rw [cell_of_row _ w.heap.size _ _ _ _ hnew]
  rw [vbs_get xs i hi]
  unfold bytesRow
  rw [Nat.zero_add, Array.getElem?_append_left (by simp [sb, hi])]
  simp [sb, hi, vb, nb]
end Go.Proofs.Ytoidlmhebnlnbaa
