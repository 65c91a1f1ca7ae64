/- Lists of bytes in memory ([][]byte) that the call made: a block of slices, whose bytes lie outside some blocks. -/
import Derived.Test.YtbedpjpddcjpkaaDskR
import Derived.Test.YtbedpjpddcjpkaaMk
import Derived.Laws.CopyOwn
set_option linter.unusedVariables false
set_option linter.unusedSimpArgs false
namespace Go.Proofs.Ytbedpjpddcjpkaa
open Go.ChangeShapes Go.WideShapes Go.ChangeAt Go.RowKit Go.MapKept

theorem info_bs : (Try.prog.info? 34).map (fun i => (i.zero, i.size, i.bytes)) = some (some (.slice none 0 0), 1, 24) := by kernel_rfl
/-- Block g holds slices that read as ls; their bytes lie outside X. -/
def RowsAt (w : World) (X : List Nat) (g : Nat) (ls : List (List Byte)) : Prop :=
  ∃ cs : Array Value, w.heap[g]? = some (.cells cs 34 (0, 0)) ∧ cs.size = ls.length ∧ g ∈ X ∧
    ∀ i (h : i < ls.length), ∃ A c, cs[i]? = some (.slice A ls[i].length c) ∧ ls[i].length ≤ c ∧ c ≤ maxLen ∧ Rd w A ls[i] ∧ ∀ ad, A = some ad → ad.block ∉ X ∧ ad.block < w.heap.size
section
variable {w w' : World} {X X' F : List Nat} {g : Nat} {ls : List (List Byte)}
theorem RowsAt.lt (h : RowsAt w X g ls) : g < w.heap.size := by
  obtain ⟨cs, h1, -⟩ := h
  exact (Array.getElem?_eq_some_iff.1 h1).1
theorem RowsAt.ts (h : RowsAt w X g ls) (k : TS F w w') (hg : g ∉ F) (hF : ∀ x ∈ F, x ∈ X) : RowsAt w' X g ls := by
  obtain ⟨cs, h1, h2, h3, h4⟩ := h
  refine ⟨cs, (k.block g (Array.getElem?_eq_some_iff.1 h1).1 hg).trans h1, h2, h3, fun i hi => ?_⟩
  obtain ⟨A, c, e1, e2, e3, e4, e5⟩ := h4 i hi
  exact ⟨A, c, e1, e2, e3, k.rd e4 (fun ad ha hf => (e5 ad ha).1 (hF _ hf)), fun ad ha => ⟨(e5 ad ha).1, Nat.lt_of_lt_of_le (e5 ad ha).2 k.size⟩⟩
theorem RowsAt.fb (h : RowsAt w X g ls) (k : FB w w') : RowsAt w' X g ls := h.ts (TS.of (F := []) k) (by simp) (by simp)
theorem RowsAt.widen (h : RowsAt w X g ls) (hX : ∀ x ∈ X', x ∈ X ∨ w.heap.size ≤ x) (hg : g ∈ X') : RowsAt w X' g ls := by
  obtain ⟨cs, h1, h2, h3, h4⟩ := h
  refine ⟨cs, h1, h2, hg, fun i hi => ?_⟩
  obtain ⟨A, c, e1, e2, e3, e4, e5⟩ := h4 i hi
  refine ⟨A, c, e1, e2, e3, e4, fun ad ha => ⟨fun hm => ?_, (e5 ad ha).2⟩⟩
  rcases hX _ hm with hm | hm
  · exact (e5 ad ha).1 hm
  · have := (e5 ad ha).2; omega
theorem RowsAt.get (h : RowsAt w X g ls) (i : Nat) (hi : i < ls.length) : ∃ A c, w.cell? ⟨g, i, none⟩ = some (.slice A ls[i].length c) ∧ ls[i].length ≤ c ∧ c ≤ maxLen ∧ Rd w A ls[i] ∧ w.frozen? ⟨g, i, none⟩ = false ∧ ∀ ad, A = some ad → ad.block ∉ X := by
  obtain ⟨cs, h1, h2, h3, h4⟩ := h
  obtain ⟨A, c, e1, e2, e3, e4, e5⟩ := h4 i hi
  exact ⟨A, c, by rw [cell_of_row _ _ _ _ _ _ h1]; exact e1, e2, e3, e4, frozen_row _ h1 i, fun ad ha => (e5 ad ha).1⟩
/-- A row laid at a place. -/
theorem RowsAt.set (h : RowsAt w X g ls) (i : Nat) (hi : i < ls.length) {A : Option Addr} {c : Nat} {xs : List Byte} (hr : Rd w A xs) (h1 : xs.length ≤ c) (h2 : c ≤ maxLen) (hA : ∀ ad, A = some ad → ad.block ∉ X ∧ ad.block < w.heap.size) :
    RowsAt (w.setCell ⟨g, i, none⟩ (.slice A xs.length c)) X g (ls.set i xs) ∧ TB g w (w.setCell ⟨g, i, none⟩ (.slice A xs.length c)) := by
  obtain ⟨cs, k1, k2, k3, k4⟩ := h
  have htb : TB g w (w.setCell ⟨g, i, none⟩ (.slice A xs.length c)) := TB.set w i _
  have hts : TS [g] w (w.setCell ⟨g, i, none⟩ (.slice A xs.length c)) := TS.tb htb (by simp)
  refine ⟨⟨cs.setIfInBounds i (.slice A xs.length c), ?_, by simp [k2], k3, fun j hj => ?_⟩, htb⟩
  · rw [heap_setCell_same _ _ _ _ _ _ k1]
  · rw [List.length_set] at hj
    by_cases e : i = j
    · subst e
      refine ⟨A, c, ?_, by simpa using h1, h2, ?_, fun ad ha => ⟨(hA ad ha).1, by simpa using (hA ad ha).2⟩⟩
      · simp [k2, hi]
      · simp only [List.getElem_set_self]
        exact hts.rd hr (fun ad ha hm => (hA ad ha).1 (by simp at hm; rw [hm]; exact k3))
    · obtain ⟨A', c', e1, e2, e3, e4, e5⟩ := k4 j hj
      simp only [List.getElem_set_ne e]
      refine ⟨A', c', ?_, e2, e3, hts.rd e4 (fun ad ha hm => (e5 ad ha).1 (by simp at hm; rw [hm]; exact k3)), fun ad ha => ⟨(e5 ad ha).1, by simpa using (e5 ad ha).2⟩⟩
      rw [Array.getElem?_setIfInBounds_ne e]; exact e1
/-- All rows copied onto as many. -/
theorem RowsAt.copy {gs : Nat} {us : List (List Byte)} (h : RowsAt w X g ls) (hs : RowsAt w X gs us) (hl : ls.length = us.length) (n : Nat) (hn : n = us.length) (ca cb : Nat) :
    ∃ w', (∀ ty, (Builtin.copy_ #[33, 33] ty #[.slice (some ⟨g, 0, none⟩) n ca, .slice (some ⟨gs, 0, none⟩) n cb]).run Try.prog w = .ok (goInt n) w') ∧ RowsAt w' X g us ∧ TB g w w' := by
  subst hn
  obtain ⟨cs, k1, k2, k3, k4⟩ := h
  obtain ⟨ds, q1, q2, q3, q4⟩ := hs
  obtain ⟨i, hi, _, hsz, _⟩ := info_parts info_bs
  have hsz1 : (Try.prog.info? 34).map (·.size) = some 1 := by rw [hi]; simp [hsz]
  have hone : ∀ v ∈ ds.toList, v.oneCell' = true := fun v hv => by
    obtain ⟨j, hj⟩ := List.getElem?_of_mem hv
    have hjl := (List.getElem?_eq_some_iff.1 hj).1
    obtain ⟨A, c, e1, -⟩ := q4 j (by simp at hjl; omega)
    rw [Array.getElem?_toList, e1] at hj
    cases hj; rfl
  have hrun := fun ty => run_copy_row (P := Try.prog) w 33 33 ty 34 g 0 us.length ca ⟨gs, 0, none⟩ us.length cb cs 34 ds.toList Try.underlying33 hsz1 k1 (by simp [q2]) (fun j v hj => by
    rw [show (⟨gs, 0, none⟩ : Addr).add j = ⟨gs, j, none⟩ from by unfold Addr.add; split <;> simp_all, cell_of_row _ _ _ _ _ _ q1]
    simpa using hj) (by simp; omega) hone
  rw [show ds.toList.length = us.length from by simp [q2]] at hrun
  refine ⟨_, hrun, ?_, TB.row _ _ _⟩
  have hts := TS.tb (F := [g]) (TB.row g w (cs.toList.take 0 ++ ds.toList ++ cs.toList.drop (0 + us.length)).toArray) (by simp)
  have hrow := setRow_heap w g cs (cs.toList.take 0 ++ ds.toList ++ cs.toList.drop (0 + us.length)).toArray _ _ k1
  have hsame : (cs.toList.take 0 ++ ds.toList ++ cs.toList.drop (0 + us.length)).toArray = ds := by
    rw [List.take_zero, List.nil_append, List.drop_of_length_le (by simp; omega), List.append_nil]
  rw [hsame] at hrow hts ⊢
  refine ⟨ds, hrow, q2, k3, fun j hj => ?_⟩
  obtain ⟨A, c, e1, e2, e3, e4, e5⟩ := q4 j hj
  exact ⟨A, c, e1, e2, e3, hts.rd e4 (fun ad ha hm => (e5 ad ha).1 (by simp at hm; rw [hm]; exact k3)), fun ad ha => ⟨(e5 ad ha).1, Nat.lt_of_lt_of_le (e5 ad ha).2 hts.size⟩⟩
end
/-- make([][]byte, n). -/
theorem mk_rows (n : Nat) (hn : n ≤ 100000000) : ∃ C : Array Value,
    (∀ W : World, (Instr.makeSlice 33 (.int .i64 (n : Int)) (.int .i64 (n : Int))).run Try.prog W = .ok (.slice (some ⟨W.heap.size, 0, none⟩) n n) (W.alloc (.cells C 34))) ∧
    C = (List.replicate n (Value.slice none 0 0)).toArray := by
  obtain ⟨i, hi, hz, hsz, hb⟩ := info_parts info_bs
  refine ⟨madeCells #[.slice none 0 0] n, fun W => ?_, ?_⟩
  · have h := run_make (P := Try.prog) W 33 34 i _ Try.underlying33 hi hz .i64 .i64 (n : Int) (n : Int) (by omega) (Int.le_refl _) (by rw [hb]; omega) (by omega)
    rw [hsz] at h
    simpa [Value.cells] using h
  · rw [← toList_madeCells_one]
theorem RowsAt.mk {w : World} {X : List Nat} {n : Nat} {C : Array Value} (hC : C = (List.replicate n (Value.slice none 0 0)).toArray) (hg : w.heap.size ∈ X) : RowsAt (w.alloc (.cells C 34)) X w.heap.size (List.replicate n []) := by
  subst hC
  refine ⟨_, heap_alloc_new _ _, by simp, hg, fun i hi => ⟨none, 0, ?_, by simp, by simp [maxLen], ?_, fun ad ha => by cases ha⟩⟩
  · rw [List.length_replicate] at hi
    simp [hi]
  · simp only [List.getElem_replicate]; exact Rd.nil _ _
end Go.Proofs.Ytbedpjpddcjpkaa
