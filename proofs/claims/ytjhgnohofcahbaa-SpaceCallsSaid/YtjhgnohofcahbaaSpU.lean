/- space, plain: pages are turned one by one, and turned back. -/
import Derived.Test.YtjhgnohofcahbaaSpS
set_option linter.unusedVariables false
set_option linter.unusedSimpArgs false
namespace Go.Proofs.Ytjhgnohofcahbaa
open Go.ChangeShapes Go.WideShapes Go.ChangeAt Go.RowKit

/-- A page is turned. -/
def tgl (us : List Bool) (n : Nat) : List Bool := us.set n (!us.getD n false)
def tgls (us : List Bool) (ds : List Nat) : List Bool := ds.foldl tgl us
theorem tgl_len (us : List Bool) (n : Nat) : (tgl us n).length = us.length := List.length_set
theorem tgls_snoc (us : List Bool) (ds : List Nat) (n : Nat) : tgls us (ds ++ [n]) = tgl (tgls us ds) n := by unfold tgls; rw [List.foldl_append]; rfl
theorem tgl_get {us : List Bool} {n : Nat} (h : n < us.length) : (tgl us n).getD n false = !us.getD n false := by unfold tgl; rw [getD_set h, if_pos rfl]
theorem tgl_back {us : List Bool} {n : Nat} (h : n < us.length) : tgl (tgl us n) n = us := by
  have e := tgl_get h
  rw [tgl, e, Bool.not_not]
  unfold tgl
  rw [List.set_set]
  apply List.ext_getElem?
  intro i
  rw [List.getElem?_set]
  by_cases k : n = i
  · subst k; rw [if_pos rfl, if_pos h, List.getElem?_eq_getElem h, getD_at h]
  · rw [if_neg k]
theorem tgl_ok {P : Int} {us : List Bool} {n : Nat} (h : spOk P us = true) (h2 : 2 ≤ n) (hn : n < us.length) : spOk P (tgl us n) = true := by
  have o := spOk_iff.1 h
  exact spOk_iff.2 ⟨o.1, o.2.1, by rw [tgl_len]; exact o.2.2.1, by unfold tgl; rw [getD_set hn, if_neg (by omega)]; exact o.2.2.2.1, by unfold tgl; rw [getD_set hn, if_neg (by omega)]; exact o.2.2.2.2⟩
theorem frees_filter {us : List Bool} {n k : Nat} (hk : k < us.length) : frees (us.set k true) n = (frees us n).filter (fun i => i != k) := by
  unfold frees
  rw [List.filter_filter]
  refine List.filter_congr fun i _ => ?_
  rw [getD_set hk]
  by_cases e : k = i
  · subst e; simp
  · rw [if_neg e]; simp [show ¬ i = k from fun h => e h.symm]
theorem frees_one {us : List Bool} {n k : Nat} (hk : k < us.length) (hn : k < n) (h : us.getD k false = false) : (frees (us.set k true) n).length + 1 = (frees us n).length := by
  have hm : k ∈ frees us n := by unfold frees; rw [List.mem_filter]; exact ⟨by simpa using hn, by rw [h]; rfl⟩
  rw [frees_filter hk, ← List.Nodup.erase_eq_filter (frees_nodup us n), List.length_erase_of_mem hm]
  have := List.length_pos_of_mem hm
  omega
theorem tgl_free {us : List Bool} {n : Nat} (hn : n < us.length) (h : us.getD n false = false) : (frees (tgl us n) us.length).length + 1 = (frees us us.length).length := by
  unfold tgl; rw [h]; exact frees_one hn hn h
theorem tgl_used {us : List Bool} {n : Nat} (hn : n < us.length) (h : us.getD n false = true) : (frees (tgl us n) us.length).length = (frees us us.length).length + 1 := by
  have e := tgl_free (us := tgl us n) (n := n) (by rw [tgl_len]; exact hn) (by rw [tgl_get hn, h]; rfl)
  rw [tgl_back hn, tgl_len] at e
  omega
theorem cnt_eq {P : Int} {us : List Bool} (h : spOk P us = true) : spFree P us = frees us us.length := by unfold spFree; rw [if_pos h]
/-- What Use and Give answer. -/
theorem tg_low {P : Int} {us : List Bool} {n : Nat} (h : spOk P us = true) (hn : n < us.length) (h2 : n < 2) : spUse P us (n : Int) = (0, [], 7) ∧ spGive P us (n : Int) = (0, [], 2) := by
  have o := spOk_iff.1 h
  have hg : us.getD n false = true := by
    rcases (show n = 0 ∨ n = 1 by omega) with rfl | rfl
    · exact o.2.2.2.1
    · exact o.2.2.2.2
  constructor
  · unfold spUse; rw [if_pos ⟨h, by omega, by omega⟩, Int.toNat_natCast, hg]; rfl
  · unfold spGive; rw [if_neg (by omega)]
theorem tg_used {P : Int} {us : List Bool} {n : Nat} (h : spOk P us = true) (hn : n < us.length) (h2 : 2 ≤ n) (hg : us.getD n false = true) : spUse P us (n : Int) = (0, [], 7) ∧ spGive P us (n : Int) = (P, tgl us n, 0) ∧ (spFree P (tgl us n)).length = (spFree P us).length + 1 ∧ (tgl us n).getD n false = false := by
  have o := spOk_iff.1 h
  refine ⟨?_, ?_, ?_, ?_⟩
  · unfold spUse; rw [if_pos ⟨h, by omega, by omega⟩, Int.toNat_natCast, hg]; rfl
  · unfold spGive; rw [if_pos ⟨h, by omega, by omega⟩, Int.toNat_natCast, hg]; unfold tgl; rw [hg]; rfl
  · rw [cnt_eq h, cnt_eq (tgl_ok h h2 hn), tgl_len]; exact tgl_used hn hg
  · rw [tgl_get hn, hg]; rfl
theorem tg_free {P : Int} {us : List Bool} {n : Nat} (h : spOk P us = true) (hn : n < us.length) (h2 : 2 ≤ n) (hg : us.getD n false = false) : spUse P us (n : Int) = (P, tgl us n, 0) ∧ spGive P us (n : Int) = (0, [], 6) ∧ (spFree P (tgl us n)).length + 1 = (spFree P us).length ∧ (tgl us n).getD n false = true := by
  have o := spOk_iff.1 h
  refine ⟨?_, ?_, ?_, ?_⟩
  · unfold spUse; rw [if_pos ⟨h, by omega, by omega⟩, Int.toNat_natCast, hg]; unfold tgl; rw [hg]; rfl
  · unfold spGive; rw [if_pos ⟨h, by omega, by omega⟩, Int.toNat_natCast, hg]; rfl
  · rw [cnt_eq h, cnt_eq (tgl_ok h h2 hn), tgl_len]; exact tgl_free hn hg
  · rw [tgl_get hn, hg]; rfl
/-- Where the pages turned may be turned. -/
structure TgOk (P : Int) (us : List Bool) (ds : List Nat) : Prop where
  ok : spOk P (tgls us ds) = true
  len : (tgls us ds).length = us.length
  all : ∀ n ∈ ds, 2 ≤ n ∧ n < us.length
theorem TgOk.nil {P : Int} {us : List Bool} (h : spOk P us = true) : TgOk P us [] := ⟨h, rfl, fun _ h => by cases h⟩
theorem TgOk.snoc {P : Int} {us : List Bool} {ds : List Nat} (h : TgOk P us ds) {n : Nat} (h2 : 2 ≤ n) (hn : n < us.length) : TgOk P us (ds ++ [n]) := by
  refine ⟨?_, ?_, fun m hm => ?_⟩
  · rw [tgls_snoc]; exact tgl_ok h.ok h2 (by rw [h.len]; exact hn)
  · rw [tgls_snoc, tgl_len]; exact h.len
  · rcases List.mem_append.1 hm with k | k
    · exact h.all m k
    · rw [List.mem_singleton.1 k]; exact ⟨h2, hn⟩
theorem TgOk.pre {P : Int} {us : List Bool} {ds : List Nat} (h0 : spOk P us = true) (h : ∀ n ∈ ds, 2 ≤ n ∧ n < us.length) : ∀ i, TgOk P us (ds.take i) := by
  intro i
  induction i with
  | zero => exact TgOk.nil h0
  | succ i ih =>
    by_cases hi : i < ds.length
    · rw [List.take_succ_eq_append_getElem hi]
      have := h _ (List.getElem_mem hi)
      exact ih.snoc this.1 this.2
    · rw [List.take_of_length_le (by omega)]; rw [List.take_of_length_le (by omega)] at ih; exact ih
theorem tgls_undo {us : List Bool} {ds : List Nat} {i : Nat} (hi : i < ds.length) (hl : ds[i] < (tgls us (ds.take i)).length) : tgl (tgls us (ds.take (i + 1))) ds[i] = tgls us (ds.take i) := by
  rw [List.take_succ_eq_append_getElem hi, tgls_snoc, tgl_back hl]
end Go.Proofs.Ytjhgnohofcahbaa
