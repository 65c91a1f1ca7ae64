/- space, plain: what was encoded is read. -/
import Derived.Test.YtjhgnohofcahbaaSpL
import Derived.Test.YtjhgnohofcahbaaOctQ
set_option linter.unusedVariables false
set_option linter.unusedSimpArgs false
namespace Go.Proofs.Ytjhgnohofcahbaa
open Go.ChangeShapes Go.WideShapes Go.ChangeAt Go.RowKit

theorem spBytes_take (P : Int) (us : List Bool) : (spBytes P us).take 4 = oword 4 (BitVec.ofInt 64 P) := by
  unfold spBytes; rw [List.take_left' (oword_len _ _)]
theorem spBytes_drop (P : Int) (us : List Bool) : (spBytes P us).drop 4 = spBits us ((us.length + 7) / 8) us.length := by
  unfold spBytes; rw [List.drop_left' (oword_len _ _)]
theorem rdN_of {n : Nat} (us : List Bool) (hn : n ≤ 4096) (b : List Byte) (hb : b.take 4 = (spBytes (n : Int) us).take 4) : rdN b = n := by
  unfold rdN
  rw [hb, spBytes_take, xword_oword 4 _ (by omega), BitVec.toNat_ofInt]
  omega
theorem rdU_of (n : Nat) (us : List Bool) (hn : us.length = n) : rdU (spBytes (n : Int) us) n = us := by
  subst hn
  unfold rdU
  rw [spBytes_drop]
  apply List.ext_getElem?
  intro i
  by_cases h : i < us.length
  · rw [List.getElem?_map, List.getElem?_range h, Option.map_some, List.getD_eq_getElem?_getD, spBits_get (by omega), Option.getD_some]
    unfold spBt
    rw [byteOf_get _ (by omega), show 8 * (i / 8) + i % 8 = i from by omega]
    simp [h]
  · rw [List.getElem?_eq_none (by simp; omega), List.getElem?_eq_none (by omega)]
theorem spRead_back {P : Int} {us : List Bool} (h : spOk P us = true) : spRead (spBytes P us) = (P, us, 0) := by
  have h3 := spOk_iff.1 h
  obtain ⟨n, rfl⟩ : ∃ n : Nat, P = (n : Int) := ⟨P.toNat, by omega⟩
  have hn : us.length = n := by omega
  have e1 : rdN (spBytes (n : Int) us) = n := rdN_of us (by omega) _ rfl
  have e2 := rdU_of n us hn
  have := (spRead_ok (b := spBytes (n : Int) us) e1.symm ⟨by rw [spBytes_len]; omega, by omega, by omega, by rw [spBytes_len]; omega, by rw [e2]; exact h, by rw [e2]⟩).out
  rw [this, e2]
theorem spRead_other {P : Int} {us : List Bool} (h : spOk P us = true) {b : List Byte} (hb : b.take 4 = (spBytes P us).take 4) (hl : b.length ≠ (spBytes P us).length) : spRead b = (0, [], 4) := by
  have h3 := spOk_iff.1 h
  obtain ⟨n, rfl⟩ : ∃ n : Nat, P = (n : Int) := ⟨P.toNat, by omega⟩
  have e1 : rdN b = n := rdN_of us (by omega) _ hb
  refine (spRead_bad e1.symm (fun k => hl ?_)).out
  rw [k.2.2.2.1, spBytes_len]; omega
theorem spRead_less {P : Int} {us : List Bool} (h : spOk P us = true) : spRead ((spBytes P us).take ((spBytes P us).length - 1)) = (0, [], 4) := by
  have h3 := spOk_iff.1 h
  have hl := spBytes_len P us
  refine spRead_other h ?_ (by rw [List.length_take]; omega)
  rw [List.take_take, Nat.min_eq_left (by omega)]
theorem spRead_more {P : Int} {us : List Bool} (h : spOk P us = true) : spRead (spBytes P us ++ [0#8]) = (0, [], 4) := by
  have hl := spBytes_len P us
  refine spRead_other h ?_ (by rw [List.length_append]; simp)
  rw [List.take_append_of_le_length (by omega)]
/-- What is read is encoded as that. -/
theorem spRead_fits (b : List Byte) : (∃ n us, spRead b = (n, us, 0) ∧ spBytesR n us = (b, 0)) ∨ spRead b = (0, [], 4) := by
  by_cases h : 4 ≤ b.length ∧ 8 ≤ rdN b ∧ rdN b ≤ 4096 ∧ b.length = 4 + (rdN b + 7) / 8 ∧ spOk (rdN b) (rdU b (rdN b)) = true ∧ spBytes (rdN b) (rdU b (rdN b)) = b
  · refine .inl ⟨_, _, (spRead_ok rfl h).out, ?_⟩
    unfold spBytesR
    rw [if_pos h.2.2.2.2.1, h.2.2.2.2.2]
  · exact .inr (spRead_bad rfl h).out
theorem spRead_len {b : List Byte} {n : Int} {us : List Bool} (h : spRead b = (n, us, 0)) : us.length ≤ 4096 := by
  unfold spRead at h
  split at h
  · rename_i k
    simp only [Prod.mk.injEq] at h
    rw [← h.2.1, rdU_len]; exact k.2.2.1
  · simp at h
end Go.Proofs.Ytjhgnohofcahbaa
