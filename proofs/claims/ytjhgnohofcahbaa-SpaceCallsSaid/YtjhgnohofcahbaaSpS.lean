/- space, plain: page after page is taken. -/
import Derived.Test.YtjhgnohofcahbaaSpQ
set_option linter.unusedVariables false
set_option linter.unusedSimpArgs false
namespace Go.Proofs.Ytjhgnohofcahbaa
open Go.ChangeShapes Go.WideShapes Go.ChangeAt Go.RowKit

theorem frees_nodup (us : List Bool) (n : Nat) : (frees us n).Nodup := by
  unfold frees; exact List.Pairwise.filter _ List.nodup_range
theorem frees_is {us : List Bool} {n k : Nat} (h : k ∈ frees us n) : us.getD k false = false ∧ k < n := by
  unfold frees at h
  obtain ⟨h1, h2⟩ := List.mem_filter.1 h
  exact ⟨by simpa using h2, by simpa using h1⟩
theorem getD_set {us : List Bool} {k i : Nat} {b : Bool} (hk : k < us.length) : (us.set k b).getD i false = if k = i then b else us.getD i false := by
  rw [List.getD_eq_getElem?_getD, List.getElem?_set]
  by_cases h : k = i
  · rw [if_pos h, if_pos h, if_pos hk]; rfl
  · rw [if_neg h, if_neg h, ← List.getD_eq_getElem?_getD]
theorem frees_set {us : List Bool} {n k : Nat} {r : List Nat} (hk : k < us.length) (h : frees us n = k :: r) : frees (us.set k true) n = r := by
  have hnd := frees_nodup us n
  rw [h] at hnd
  have h1 : frees (us.set k true) n = (frees us n).filter (fun i => decide (i ≠ k)) := by
    unfold frees
    rw [List.filter_filter]
    refine List.filter_congr fun i _ => ?_
    rw [getD_set hk]
    by_cases e : k = i
    · subst e; simp
    · rw [if_neg e]; simp [show ¬ i = k from fun h => e h.symm]
  rw [h1, h, List.filter_cons]
  have hn := (List.nodup_cons.1 hnd).1
  simp only [ne_eq, not_true_eq_false, decide_false, Bool.false_eq_true, if_false]
  exact List.filter_eq_self.2 fun x hx => by
    have : x ≠ k := fun e => hn (e ▸ hx)
    simpa using this
theorem set_back {us : List Bool} {k : Nat} (hk : k < us.length) (h : us.getD k false = false) : (us.set k true).set k false = us := by
  rw [List.set_set]
  apply List.ext_getElem?
  intro i
  rw [List.getElem?_set]
  by_cases e : k = i
  · subst e
    rw [if_pos rfl, if_pos hk, List.getElem?_eq_getElem hk]
    rw [getD_at hk] at h; rw [h]
  · rw [if_neg e]
/-- What is left after i pages were taken. -/
def TkOk (P : Int) (us cur : List Bool) (i : Nat) : Prop := cur.length = us.length ∧ spOk P cur = true ∧ frees cur us.length = (frees us us.length).drop i
theorem tk_start {P : Int} {us : List Bool} (h : spOk P us = true) : TkOk P us us 0 := ⟨rfl, h, rfl⟩
theorem tk_step {P : Int} {us cur : List Bool} {i : Nat} (h : TkOk P us cur i) (hi : i < (frees us us.length).length) :
    ∃ k : Nat, (frees us us.length)[i]? = some k ∧ k < us.length ∧ spTake P cur = ((k : Int), (P, cur.set k true), 0) ∧ spGive P (cur.set k true) (k : Int) = (P, cur, 0) ∧ spUse P cur (k : Int) = (P, cur.set k true, 0) ∧
      (spFree P (cur.set k true)).length = (frees us us.length).length - i - 1 ∧ TkOk P us (cur.set k true) (i + 1) := by
  obtain ⟨h1, h2, h3⟩ := h
  obtain ⟨k, hk⟩ : ∃ k, k = (frees us us.length)[i] := ⟨_, rfl⟩
  have hd : (frees us us.length).drop i = k :: (frees us us.length).drop (i + 1) := by rw [List.drop_eq_getElem_cons hi, hk]
  rw [hd] at h3
  obtain ⟨h5, h6⟩ := frees_is (us := cur) (n := us.length) (k := k) (by rw [h3]; simp)
  have hkl : k < cur.length := by omega
  have o := spOk_iff.1 h2
  have hk0 : k ≠ 0 := fun e => by rw [e, o.2.2.2.1] at h5; cases h5
  have hk1 : k ≠ 1 := fun e => by rw [e, o.2.2.2.2] at h5; cases h5
  have hP : (k : Int) < P := by omega
  have hok : spOk P (cur.set k true) = true := spOk_iff.2 ⟨o.1, o.2.1, by rw [List.length_set]; exact o.2.2.1, by rw [getD_set hkl, if_neg hk0]; exact o.2.2.2.1, by rw [getD_set hkl, if_neg hk1]; exact o.2.2.2.2⟩
  have hfr : frees (cur.set k true) us.length = (frees us us.length).drop (i + 1) := frees_set hkl h3
  refine ⟨k, by rw [List.getElem?_eq_getElem hi, hk], h6, ?_, ?_, ?_, ?_, by rw [List.length_set]; exact h1, hok, hfr⟩
  · unfold spTake; rw [if_pos h2, h1, h3]
  · unfold spGive
    rw [if_pos ⟨hok, by omega, hP⟩, Int.toNat_natCast, getD_set hkl, if_pos rfl, if_pos rfl, set_back hkl h5]
  · unfold spUse
    rw [if_pos ⟨h2, by omega, hP⟩, Int.toNat_natCast, h5]
    rfl
  · unfold spFree
    rw [if_pos hok, List.length_set, h1, hfr, List.length_drop]; omega
theorem tk_end {P : Int} {us cur : List Bool} {i : Nat} (h : TkOk P us cur i) (hi : (frees us us.length).length ≤ i) : spTake P cur = (0, (0, []), 9) := by
  obtain ⟨h1, h2, h3⟩ := h
  rw [List.drop_eq_nil_of_le hi] at h3
  unfold spTake; rw [if_pos h2, h1, h3]
theorem orL_len (us vs : List Bool) : (orL us vs).length = us.length := orK_len us vs _
theorem orL_get {us vs : List Bool} {i : Nat} (h : i < us.length) (h2 : i < vs.length) : (orL us vs)[i]? = some (us[i] || vs[i]) := by
  unfold orL
  rw [orK_get h, getD_at h, getD_at h2]
  simp [h]
end Go.Proofs.Ytjhgnohofcahbaa
