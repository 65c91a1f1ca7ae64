/- space: the walk through Take (a return out of a range over a function). -/
import Derived.Test.YtjhgnohofcahbaaSpC
set_option linter.unusedVariables false
set_option linter.unusedSimpArgs false
namespace Go.Proofs.Ytjhgnohofcahbaa
open Go.ChangeShapes Go.WideShapes Go.ChangeAt Go.RowKit Go.Shelf
attribute [local go_sem] Oper.semAt_some
set_option maxRecDepth 100000

theorem wpListIn_store_by {F : Fence} {nF : Nat} {P : Program} {ops : Array Oper} {rest : List Oper} {o : Oper} {a : Act} {w : World} {Q : Exit → Act → World → Prop} (hgd : o.guard = none) (ty : TypeId) (x y : Operand) (ho : o.op = .store ty x y)
    (w' : World) (hrun : (Instr.storeAt ty (a.eval x) (a.eval y)).run P w = .ok () w') (h : wpListIn F nF P ops Q rest (a.put o.dst undef) w') : wpListIn F nF P ops Q (o :: rest) a w :=
  wpListIn_plain hgd fun _ hK => by
    unfold Oper.wpIn
    refine ⟨by simp [Oper.about, ho], ?_⟩
    rw [Oper.semAt_plain F _ _ (by rw [ho]; intro c hc'; cases hc')]
    unfold execOp
    simp only [ho, Sem.run_bind, Sem.run_pure, Result.andThen_ok, hrun]
    exact hK _ _ h
theorem KeepsOthers.fb {w w' : World} (h : FB w w') : KeepsOthers w w' := ⟨h.le, fun k o hk _ => (h.block k (Array.getElem?_eq_some_iff.1 hk).1).trans hk⟩
theorem KeepsOthers.row {w : World} {g : Nat} {cs : Array Value} {t : TypeId} {fr : Nat × Nat} (h : w.heap[g]? = some (.cells cs t fr)) (ds : Array Value) : KeepsOthers w (w.setRow g ds) :=
  KeepsOthers.of_grownBy (row := some g) (TB.setRow g w ds) (fun j o e ho => by cases e; rw [h] at ho; cases ho; rfl)
/-- What Take returns: a page, a space, an error. -/
def spTake (P : Int) (us : List Bool) : Int × (Int × List Bool) × Int :=
  if spOk P us then (match frees us us.length with | [] => (0, (0, []), 9) | k :: _ => ((k : Int), (P, us.set k true), 0)) else (0, (0, []), 2)
def SpT (r : Int × (Int × List Bool) × Int) (w : World) (e : Ending) (w' : World) : Prop :=
  ∃ A c, e = .returned (.tuple #[.int .i64 r.1, .agg #[.int .i64 r.2.1.1, .slice A r.2.1.2.length c], .int .i64 r.2.2]) ∧ RdV w' A (r.2.1.2.map .bool) ∧ r.2.1.2.length ≤ c ∧ c ≤ maxLen ∧ FB w w'
theorem SpT.none {w w' : World} (x : Int) (h : FB w w') : SpT (0, (0, []), x) w (.returned (.tuple #[.int .i64 0, .agg #[.int .i64 0, .slice none 0 0], .int .i64 x])) w' := ⟨Option.none, 0, rfl, RdV.nil _ _, by simp, by simp [maxLen], h⟩
theorem int_load {w : World} {g : Nat} {x : Value} (hw : w.heap[g]? = some (.cells #[x] 3 (0, 0))) : (loadVar 3 ⟨g, 0, none⟩).run Try.prog w = .ok x w := by
  have hc : w.cell? ⟨g, 0, none⟩ = some x := by rw [cell_of_row _ _ _ _ _ _ hw]; rfl
  simp [loadVar, go_sem, hc]
theorem errno_load {w : World} {g : Nat} {x : Value} (hw : w.heap[g]? = some (.cells #[x] 26 (0, 0))) : (loadVar 26 ⟨g, 0, none⟩).run Try.prog w = .ok x w := by
  have hc : w.cell? ⟨g, 0, none⟩ = some x := by rw [cell_of_row _ _ _ _ _ _ hw]; rfl
  simp [loadVar, go_sem, hc]
theorem take_ret (tmps : Array Value) (g1 g2 g3 : Nat) (hg1 : tmps.getD 2 undef = .pointer (some ⟨g1, 0, none⟩)) (hg2 : tmps.getD 3 undef = .pointer (some ⟨g2, 0, none⟩)) (hg3 : tmps.getD 4 undef = .pointer (some ⟨g3, 0, none⟩)) (w : World) {a x y b : Value}
    (h1 : w.heap[g1]? = some (.cells #[a] 3 (0, 0))) (h2 : w.heap[g2]? = some (.cells #[x, y] 41 (0, 0))) (h3 : w.heap[g3]? = some (.cells #[b] 26 (0, 0))) :
    (results Try.f35 tmps).run Try.prog w = .ok (.tuple #[a, .agg #[x, y], b]) w :=
  results_cell3 (by rfl) tmps g1 g2 g3 hg1 hg2 hg3 w _ _ _ (int_load h1) (sp_load h2) (errno_load h3)
/-- The boxes of Take. -/
theorem boxT (w : World) (a b : Value) : let W := (((w.alloc (.cells #[a, b] 41)).alloc (.cells #[.int .i64 0] 3)).alloc (.cells #[.int .i64 0, .slice none 0 0] 41)).alloc (.cells #[.int .i64 0] 26)
    FB w W ∧ W.heap[w.heap.size]? = some (.cells #[a, b] 41 (0, 0)) ∧ W.heap[w.heap.size + 1]? = some (.cells #[.int .i64 0] 3 (0, 0)) ∧ W.heap[w.heap.size + 2]? = some (.cells #[.int .i64 0, .slice none 0 0] 41 (0, 0)) ∧ W.heap[w.heap.size + 3]? = some (.cells #[.int .i64 0] 26 (0, 0)) ∧ W.heap.size = w.heap.size + 4 := by
  have k : ∀ (X : World) (o o' : Obj) (n : Nat), X.heap[n]? = some o' → (X.alloc o).heap[n]? = some o' := fun X o o' n h => by rw [((FB.refl X).alloc o).block n (Array.getElem?_eq_some_iff.1 h).1]; exact h
  refine ⟨((((FB.refl w).alloc _).alloc _).alloc _).alloc _, ?_, ?_, ?_, ?_, by simp⟩
  · exact k _ _ _ _ (k _ _ _ _ (k _ _ _ _ (heap_alloc_new _ _)))
  · have := heap_alloc_new (w.alloc (.cells #[a, b] 41)) (.cells #[.int .i64 0] 3)
    exact k _ _ _ _ (k _ _ _ _ (by simpa using this))
  · have := heap_alloc_new ((w.alloc (.cells #[a, b] 41)).alloc (.cells #[.int .i64 0] 3)) (.cells #[.int .i64 0, .slice none 0 0] 41)
    exact k _ _ _ _ (by simpa using this)
  · have := heap_alloc_new (((w.alloc (.cells #[a, b] 41)).alloc (.cells #[.int .i64 0] 3)).alloc (.cells #[.int .i64 0, .slice none 0 0] 41)) (.cells #[.int .i64 0] 26)
    simpa using this
theorem take_stores {w1 : World} {g2 g3 g4 : Nat} {a x y b : Value} (h2 : w1.heap[g2]? = some (.cells #[a] 3 (0, 0))) (h3 : w1.heap[g3]? = some (.cells #[x, y] 41 (0, 0))) (h4 : w1.heap[g4]? = some (.cells #[b] 26 (0, 0)))
    (n23 : g2 ≠ g3) (n24 : g2 ≠ g4) (n34 : g3 ≠ g4) (v2 p q v4 : Value) (h1 : (#[p, q]).all (·.oneCell') = true) :
    w1.cell? ⟨g2, 0, none⟩ = some a ∧ w1.frozen? ⟨g2, 0, none⟩ = false ∧
    (Instr.storeAt 41 (.pointer (some ⟨g3, 0, none⟩)) (.agg #[p, q])).run Try.prog (w1.setCell ⟨g2, 0, none⟩ v2) = .ok () ((w1.setCell ⟨g2, 0, none⟩ v2).setRow g3 #[p, q]) ∧
    ((w1.setCell ⟨g2, 0, none⟩ v2).setRow g3 #[p, q]).cell? ⟨g4, 0, none⟩ = some b ∧ ((w1.setCell ⟨g2, 0, none⟩ v2).setRow g3 #[p, q]).frozen? ⟨g4, 0, none⟩ = false ∧
    (((w1.setCell ⟨g2, 0, none⟩ v2).setRow g3 #[p, q]).setCell ⟨g4, 0, none⟩ v4).heap[g2]? = some (.cells #[v2] 3 (0, 0)) ∧
    (((w1.setCell ⟨g2, 0, none⟩ v2).setRow g3 #[p, q]).setCell ⟨g4, 0, none⟩ v4).heap[g3]? = some (.cells #[p, q] 41 (0, 0)) ∧
    (((w1.setCell ⟨g2, 0, none⟩ v2).setRow g3 #[p, q]).setCell ⟨g4, 0, none⟩ v4).heap[g4]? = some (.cells #[v4] 26 (0, 0)) ∧
    TS [g2, g3, g4] w1 (((w1.setCell ⟨g2, 0, none⟩ v2).setRow g3 #[p, q]).setCell ⟨g4, 0, none⟩ v4) ∧
    KeepsOthers w1 (((w1.setCell ⟨g2, 0, none⟩ v2).setRow g3 #[p, q]).setCell ⟨g4, 0, none⟩ v4) := by
  have ta : TS [g2] w1 (w1.setCell ⟨g2, 0, none⟩ v2) := TS.tb (TB.set w1 0 _) (by simp)
  have a2 := heap_setCell_same w1 g2 0 _ _ v2 h2
  have a3 := (ta.block g3 (Array.getElem?_eq_some_iff.1 h3).1 (by simpa using n23.symm)).trans h3
  have a4 := (ta.block g4 (Array.getElem?_eq_some_iff.1 h4).1 (by simpa using n24.symm)).trans h4
  have hst := sp_store p q a3 h1
  have k1 : KeepsOthers w1 (w1.setCell ⟨g2, 0, none⟩ v2) := KeepsOthers.setCell _ _ _
  generalize w1.setCell ⟨g2, 0, none⟩ v2 = wa at *
  have tb : TS [g3] wa (wa.setRow g3 #[p, q]) := TS.tb (TB.setRow g3 wa #[p, q]) (by simp)
  have b2 := (tb.block g2 (Array.getElem?_eq_some_iff.1 a2).1 (by simpa using n23)).trans a2
  have b3 := setRow_heap wa g3 _ #[p, q] _ _ a3
  have b4 := (tb.block g4 (Array.getElem?_eq_some_iff.1 a4).1 (by simpa using n34.symm)).trans a4
  have k2 : KeepsOthers wa (wa.setRow g3 #[p, q]) := KeepsOthers.row a3 _
  generalize wa.setRow g3 #[p, q] = wb at *
  have tc : TS [g4] wb (wb.setCell ⟨g4, 0, none⟩ v4) := TS.tb (TB.set wb 0 _) (by simp)
  have c4 := heap_setCell_same wb g4 0 _ _ v4 b4
  refine ⟨by rw [cell_of_row _ _ _ _ _ _ h2]; rfl, frozen_row _ h2 0, hst, by rw [cell_of_row _ _ _ _ _ _ b4]; rfl, frozen_row _ b4 0, ?_, ?_, c4, ?_, (k1.trans k2).trans (KeepsOthers.setCell _ _ _)⟩
  · exact (tc.block g2 (Array.getElem?_eq_some_iff.1 b2).1 (by simpa using n24)).trans b2
  · exact (tc.block g3 (Array.getElem?_eq_some_iff.1 b3).1 (by simpa using n34)).trans b3
  · exact (((TS.refl [g2, g3, g4] w1).trans ta (fun x hx => .inl (by simp at hx; simp [hx]))).trans tb (fun x hx => .inl (by simp at hx; simp [hx]))).trans tc (fun x hx => .inl (by simp at hx; simp [hx]))
set_option maxHeartbeats 1000000 in
theorem sp_Take_bad (P : Int) (us : List Bool) (A : Option Addr) (c : Nat) (w : World) (hr : RdV w A (us.map .bool)) (hl : us.length ≤ 1000000000) (hok : ¬ spOk P us = true) :
    Calls Try.prog 35 #[.agg #[.int .i64 P, .slice A us.length c]] w fun e w' => SpT (spTake P us) w e w' := by
  obtain ⟨hf, hb1, hb2, hb3, hb4, hsz⟩ := boxT w (.int .i64 P) (.slice A us.length c)
  have HF := Lib.hid hf
  have HB2 := Lib.hid hb2
  have HB3 := Lib.hid hb3
  have HB4 := Lib.hid hb4
  have HCK := Lib.hid (sp_Check P us A c _ (hf.rdV hr) (by omega))
  obtain ⟨q0, q1⟩ := row2 hb1
  have hch : spChk P us = 2 := by unfold spChk; rw [if_neg hok]
  rw [hch] at HCK
  unfold spTake
  rw [if_neg hok]
  clear hf hb1 hb2 hb3 hb4 hsz hch hok hr
  go_enter Try.func35, Try.ntmps35
  go_wp2_with fail
  generalize (((w.alloc (.cells #[.int .i64 P, .slice A us.length c] 41)).alloc (.cells #[.int .i64 0] 3)).alloc (.cells #[.int .i64 0, .slice none 0 0] 41)).alloc (.cells #[.int .i64 0] 26) = w0 at *
  obtain ⟨g1, e1⟩ : ∃ g, g = w.heap.size := ⟨_, rfl⟩
  obtain ⟨g2, e2⟩ : ∃ g, g = w.heap.size + 1 := ⟨_, rfl⟩
  obtain ⟨g3, e3⟩ : ∃ g, g = w.heap.size + 2 := ⟨_, rfl⟩
  obtain ⟨g4, e4⟩ : ∃ g, g = w.heap.size + 3 := ⟨_, rfl⟩
  rw [show w.heap.size + 1 + 1 + 1 = g4 from by omega, show w.heap.size + 1 + 1 = g3 from by omega, ← e2, ← e1]
  rw [← e4] at HB4
  rw [← e3] at HB3
  rw [← e2] at HB2
  have HG := Lib.hid (And.intro e2 (And.intro e3 e4))
  have hn23 : g2 ≠ g3 := by omega
  have hn24 : g2 ≠ g4 := by omega
  have hn34 : g3 ≠ g4 := by omega
  have hle : w.heap.size ≤ g2 ∧ w.heap.size ≤ g3 ∧ w.heap.size ≤ g4 := by omega
  have HLE := Lib.hid hle
  clear e1 e2 e3 e4 hle q0 q1
  refine HCK.out.mono ?_
  rintro e w1 ⟨rfl, hb⟩
  have HF1 := Lib.hid (HF.out.trans hb)
  have hrow2 := (hb.block _ (Array.getElem?_eq_some_iff.1 HB2.out).1).trans HB2.out
  have hrow3 := (hb.block _ (Array.getElem?_eq_some_iff.1 HB3.out).1).trans HB3.out
  have hrow4 := (hb.block _ (Array.getElem?_eq_some_iff.1 HB4.out).1).trans HB4.out
  obtain ⟨s1, s2, hst, s3, s4, r2, r3, r4, ts, -⟩ := take_stores hrow2 hrow3 hrow4 hn23 hn24 hn34 (.int .i64 0) (.int .i64 0) (.slice none 0 0) (.int .i64 2) (by simp [Value.oneCell'])
  have HRR := Lib.hid (And.intro r2 (And.intro r3 r4))
  have HEND := Lib.hid (FB.ts HF1.out ts (fun x hx => by have := HLE.out; simp at hx; omega))
  clear hb hrow2 hrow3 hrow4 r2 r3 r4 ts hn23 hn24 hn34
  go_wp2_with (refine wpList_store_by rfl _ _ _ rfl _ hst ?_)
  try simp only [Exit.inBlock, Exit.then]
  refine bodyPost_ret (take_ret _ g2 g3 g4 rfl rfl rfl _ HRR.out.1 HRR.out.2.1 HRR.out.2.2) rfl ?_
  exact SpT.none 2 HEND.out
/-- A row of cells abides what turns no cells. -/
theorem row_kept {W W' : World} {row : Option Nat} {g : Nat} {cs : Array Value} {t : TypeId} {fr : Nat × Nat} (h : W.heap[g]? = some (.cells cs t fr)) (hg : W.grownBy W' row) (hr : ∀ r, row = some r → ∃ o : Obj, W.heap[r]? = some o ∧ o.isCells = false) : W'.heap[g]? = some (.cells cs t fr) :=
  (grownBy_keeps_cells hg hr h rfl).trans h
theorem rdV_kept {W W' : World} {row : Option Nat} {A : Option Addr} {vs : List Value} (h : RdV W A vs) (hg : W.grownBy W' row) (hr : ∀ r, row = some r → ∃ o : Obj, W.heap[r]? = some o ∧ o.isCells = false) : RdV W' A vs :=
  RdV.move h fun a v _ hc => cell_kept hc hg hr
/-- Between two rounds of Take. -/
def TkI (P : Int) (A : Option Addr) (n c : Nat) (w : World) (g1 g2 g3 g4 : Nat) (W : World) : Prop :=
  W.heap[g1]? = some (.cells #[.int .i64 P, .slice A n c] 41 (0, 0)) ∧ W.heap[g2]? = some (.cells #[.int .i64 0] 3 (0, 0)) ∧ W.heap[g3]? = some (.cells #[.int .i64 0, .slice none 0 0] 41 (0, 0)) ∧ W.heap[g4]? = some (.cells #[.int .i64 0] 26 (0, 0))
/-- A round of Take has returned. -/
def TkX (P : Int) (us : List Bool) (g2 g3 g4 : Nat) (pre : List Nat) (W : World) : Prop :=
  ∃ k A' c', pre = [k] ∧ W.heap[g2]? = some (.cells #[.int .i64 (k : Int)] 3 (0, 0)) ∧ W.heap[g3]? = some (.cells #[.int .i64 P, .slice A' us.length c'] 41 (0, 0)) ∧ W.heap[g4]? = some (.cells #[.int .i64 0] 26 (0, 0)) ∧ RdV W A' ((us.set k true).map .bool) ∧ us.length ≤ c' ∧ c' ≤ maxLen
theorem frees_mem {us : List Bool} {k m : Nat} (h : k ∈ frees us m) : k < m := by
  unfold frees at h
  have := (List.mem_filter.1 h).1
  simpa using this
theorem frees_head {us : List Bool} {k m : Nat} (h : [k] <+: frees us m) : frees us m = k :: (frees us m).tail ∧ k < m := by
  obtain ⟨r, hr⟩ := h
  have : frees us m = k :: r := by rw [← hr]; rfl
  refine ⟨by rw [this]; rfl, frees_mem (us := us) (by rw [this]; simp)⟩
set_option maxHeartbeats 2000000 in
theorem sp_Take_ok (P : Int) (us : List Bool) (A : Option Addr) (c : Nat) (w : World) (hr : RdV w A (us.map .bool)) (hl : us.length ≤ 1000000000) (hok : spOk P us = true) :
    Calls Try.prog 35 #[.agg #[.int .i64 P, .slice A us.length c]] w fun e w' => SpT (spTake P us) w e w' := by
  refine (callsIn_wide (n := 10)).1 ?_
  obtain ⟨hf, hb1, hb2, hb3, hb4, hsz⟩ := boxT w (.int .i64 P) (.slice A us.length c)
  have HF := Lib.hid hf
  have HR := Lib.hid hr
  have HB1 := Lib.hid hb1
  have HB2 := Lib.hid hb2
  have HB3 := Lib.hid hb3
  have HB4 := Lib.hid hb4
  have HSZ := Lib.hid hsz
  have HCK := Lib.hid (sp_Check P us A c _ (hf.rdV hr) (by omega))
  obtain ⟨q0, q1⟩ := row2 hb1
  have hch : spChk P us = 0 := by unfold spChk; rw [if_pos hok]
  rw [hch] at HCK
  have HTK := Lib.hid (show ∀ l, frees us us.length = l → spTake P us = match l with | [] => (0, (0, []), 9) | k :: _ => ((k : Int), (P, us.set k true), 0) from fun l e => by unfold spTake; rw [if_pos hok, e])
  clear hf hb1 hb2 hb3 hb4 hsz hch hok hr
  refine callsIn_of_wp_marks Try.func35 rfl trivial ?_ rfl
  simp only [Try.ntmps35, List.size_toArray, List.length_cons, List.length_nil, Nat.reduceAdd, Nat.reduceSub, Array.replicate_succ, Array.replicate_zero, List.push_toArray, List.append_toArray, List.nil_append, List.cons_append]
  gi_wp2_with fail
  generalize (((w.alloc (.cells #[.int .i64 P, .slice A us.length c] 41)).alloc (.cells #[.int .i64 0] 3)).alloc (.cells #[.int .i64 0, .slice none 0 0] 41)).alloc (.cells #[.int .i64 0] 26) = w0 at *
  obtain ⟨g1, e1⟩ : ∃ g, g = w.heap.size := ⟨_, rfl⟩
  obtain ⟨g2, e2⟩ : ∃ g, g = w.heap.size + 1 := ⟨_, rfl⟩
  obtain ⟨g3, e3⟩ : ∃ g, g = w.heap.size + 2 := ⟨_, rfl⟩
  obtain ⟨g4, e4⟩ : ∃ g, g = w.heap.size + 3 := ⟨_, rfl⟩
  rw [show w.heap.size + 1 + 1 + 1 = g4 from by omega, show w.heap.size + 1 + 1 = g3 from by omega, ← e2, ← e1]
  rw [← e4] at HB4
  rw [← e3] at HB3
  rw [← e2] at HB2
  rw [← e1] at HB1
  have hn23 : g2 ≠ g3 := by omega
  have hn24 : g2 ≠ g4 := by omega
  have hn34 : g3 ≠ g4 := by omega
  have HLE := Lib.hid (show w.heap.size ≤ g2 ∧ w.heap.size ≤ g3 ∧ w.heap.size ≤ g4 ∧ g1 < g2 ∧ g2 < w.heap.size + 4 ∧ g3 < w.heap.size + 4 ∧ g4 < w.heap.size + 4 from by omega)
  clear e1 e2 e3 e4 q0 q1
  refine ⟨trivial, (callsIn_wide.2 HCK.out).mono ?_⟩
  rintro e w1 ⟨rfl, hb⟩
  have HF1 := Lib.hid (HF.out.trans hb)
  have HSZ1 := Lib.hid (show w.heap.size + 4 ≤ w1.heap.size from by have := Below.size hb; rw [HSZ.out] at this; exact this)
  have hrow1 := (hb.block _ (Array.getElem?_eq_some_iff.1 HB1.out).1).trans HB1.out
  have HI1 := Lib.hid (show TkI P A us.length c w g1 g2 g3 g4 w1 from ⟨hrow1, (hb.block _ (Array.getElem?_eq_some_iff.1 HB2.out).1).trans HB2.out, (hb.block _ (Array.getElem?_eq_some_iff.1 HB3.out).1).trans HB3.out, (hb.block _ (Array.getElem?_eq_some_iff.1 HB4.out).1).trans HB4.out⟩)
  obtain ⟨s0, s1⟩ := row2 hrow1
  clear hb hrow1
  gi_wp2_with fail
  refine ⟨trivial, (callsIn_wide.2 (sp_free P A us.length c _)).mono ?_⟩
  rintro e w2 ⟨rfl, rfl⟩
  have hfa := (FB.refl w1).alloc (.cells #[.int .i64 P, .slice A us.length c] 41)
  have HF2 := Lib.hid (HF1.out.trans hfa)
  have HI2 := Lib.hid (show TkI P A us.length c w g1 g2 g3 g4 (w1.alloc (.cells #[.int .i64 P, .slice A us.length c] 41)) from by
    obtain ⟨k1, k2, k3, k4⟩ := HI1.out
    exact ⟨(hfa.block _ (Array.getElem?_eq_some_iff.1 k1).1).trans k1, (hfa.block _ (Array.getElem?_eq_some_iff.1 k2).1).trans k2, (hfa.block _ (Array.getElem?_eq_some_iff.1 k3).1).trans k3, (hfa.block _ (Array.getElem?_eq_some_iff.1 k4).1).trans k4⟩)
  have HST := Lib.hid (free_stops (10 - 1) (by omega) P A c us hl w HR.out (w1.alloc (.cells #[.int .i64 P, .slice A us.length c] 41)) w1.heap.size HF2.out (row2 (heap_alloc_new w1 (.cells #[.int .i64 P, .slice A us.length c] 41))).2)
  obtain ⟨gs, hgs⟩ : ∃ gs, gs = w1.heap.size := ⟨_, rfl⟩
  rw [← hgs] at HST ⊢
  have HSZ2 := Lib.hid (show w.heap.size + 4 ≤ (w1.alloc (.cells #[.int .i64 P, .slice A us.length c] 41)).heap.size from by have := HSZ1.out; simp; omega)
  clear hfa s0 s1 hgs
  generalize w1.alloc (.cells #[.int .i64 P, .slice A us.length c] 41) = w2 at *
  gi_wp2
  refine wpIn_rangeFunc_ownF rfl (by omega) (gf := 85) (lb := #[.pointer (some ⟨gs, 0, none⟩)]) rfl trivial (enters_of Try.func85 (by kernel_rfl) rfl)
    HST.out belowK_t (belowK_b (by have := HSZ2.out; omega)) (Below.refl _ _) (fun _ => rfl)
    (fun pre W => (pre = [] ∧ TkI P A us.length c w g1 g2 g3 g4 W) ∧ Below w.heap.size w W)
    (fun c' pre W => (c' = .ret ∧ TkX P us g2 g3 g4 (pre.map (·.1)) W) ∧ Below w.heap.size w W)
    (OwnFrom.and (Own.from (fun s X Y row hs hg hr => ⟨hs.1, row_kept hs.2.1 hg hr, row_kept hs.2.2.1 hg hr, row_kept hs.2.2.2.1 hg hr, row_kept hs.2.2.2.2 hg hr⟩) _) (ownFrom_below (Nat.le_refl _) (by have := HSZ2.out; omega)))
    (fun c' => OwnFrom.and (Own.from (fun s X Y row hs hg hr => by
      obtain ⟨h1, k, A', c2, h2, h3, h4, h5, h6, h7, h8⟩ := hs
      exact ⟨h1, k, A', c2, h2, row_kept h3 hg hr, row_kept h4 hg hr, row_kept h5 hg hr, rdV_kept h6 hg hr, h7, h8⟩) _) (ownFrom_below (Nat.le_refl _) (by have := HSZ2.out; omega)))
    ⟨⟨rfl, HI2.out⟩, HF2.out⟩
    (fun x => { tmps := #[.agg #[.int .i64 P, .slice A us.length c], .pointer (some ⟨g1, 0, none⟩), .pointer (some ⟨g2, 0, none⟩), .pointer (some ⟨g3, 0, none⟩), .pointer (some ⟨g4, 0, none⟩), .int .i64 (x.1 : Int), .agg #[.int .i64 P, .slice A us.length c], .int .i64 0, .bool false, undef, .agg #[.int .i64 P, .slice A us.length c], .func (.func 85) #[] #[.pointer (some ⟨gs, 0, none⟩)], .int .i64 (x.1 : Int), undef, undef, undef, undef, undef], defers := [] }) ?assign ?body ?done ?stop
  case assign =>
    intro l x W K hK
    gi_wp2
    exact hK
  case body =>
    rintro l pre x W ⟨⟨rfl, hI⟩, hB⟩ _
    have HIw := Lib.hid hI
    have HBw := Lib.hid hB
    obtain ⟨s0, s1⟩ := row2 hI.1
    clear hI hB
    gi_wp2_with fail
    refine ⟨trivial, (CallsIn.inRound l (callsIn_wide.2 (sp_with P us A c x.1 true _ (FB.rdV HBw.out HR.out) hl x.2))).mono ?_⟩
    rintro e W2 ⟨A2, c2, rfl, ho, hb⟩
    obtain ⟨k1, k2, k3, k4⟩ := HIw.out
    have hrow2 := (hb.block _ (Array.getElem?_eq_some_iff.1 k2).1).trans k2
    have hrow3 := (hb.block _ (Array.getElem?_eq_some_iff.1 k3).1).trans k3
    have hrow4 := (hb.block _ (Array.getElem?_eq_some_iff.1 k4).1).trans k4
    obtain ⟨t1, t2, hst, t3, t4, r2, r3, r4, ts, kk⟩ := take_stores hrow2 hrow3 hrow4 hn23 hn24 hn34 (.int .i64 (x.1 : Int)) (.int .i64 P) (.slice A2 us.length c2) (.int .i64 0) (by simp [Value.oneCell'])
    have HX := Lib.hid (show TkX P us g2 g3 g4 [x.1] _ from ⟨x.1, A2, c2, rfl, r2, r3, r4, by
      have hi := OwnV.info (ts.ownV ho (fun b hb' hm => by
        have h1 := (OwnV.base ho b hb').1
        have h2 := (Array.getElem?_eq_some_iff.1 k2).1
        have h3 := (Array.getElem?_eq_some_iff.1 k3).1
        have h4 := (Array.getElem?_eq_some_iff.1 k4).1
        simp at hm; omega))
      exact ⟨hi.2.2.1, by have := hi.1; simpa using this, hi.2.1⟩⟩)
    have HKO := Lib.hid ((KeepsOthers.fb hb).trans kk)
    have HBE := Lib.hid (FB.ts (FB.trans (show FB w W from HBw.out) hb) ts (fun y hy => by have := HLE.out; simp at hy; omega))
    clear ho hb k1 k2 k3 k4 hrow2 hrow3 hrow4 r2 r3 r4 ts kk s0 s1
    gi_wp2_with (refine wpListIn_store_by rfl _ _ _ rfl _ hst ?_)
    exact ⟨HKO.out, ⟨⟨rfl, by simpa using HX.out⟩, HBE.out⟩⟩
  case done =>
    rintro D ys W hD rfl ⟨⟨he, hI⟩, hB⟩ hK
    have HBw := Lib.hid hB
    have HE := Lib.hid (show frees us us.length = [] from by rw [← freesF_val us us.length (Nat.le_refl _), he]; rfl)
    obtain ⟨k1, hrow2, hrow3, hrow4⟩ := hI
    obtain ⟨t1, t2, hst, t3, t4, r2, r3, r4, ts, kk⟩ := take_stores hrow2 hrow3 hrow4 hn23 hn24 hn34 (.int .i64 0) (.int .i64 0) (.slice none 0 0) (.int .i64 9) (by simp [Value.oneCell'])
    have HK := Lib.hid (kk.same D _ hK rfl)
    have HRR := Lib.hid (And.intro r2 (And.intro r3 r4))
    have HEND := Lib.hid (FB.ts (show FB w W from HBw.out) ts (fun y hy => by have := HLE.out; simp at hy; omega))
    clear he hB k1 hrow2 hrow3 hrow4 r2 r3 r4 ts kk
    gi_wp2_with (refine wpListIn_store_by rfl _ _ _ rfl _ hst ?_)
    refine ⟨by simp, .inl ⟨_, _, rfl, run_takeDeferred HK.out, ?_⟩⟩
    have hkk := grownBy_putObj' (((W.setCell ⟨g2, 0, none⟩ (.int .i64 0)).setRow g3 #[.int .i64 0, .slice none 0 0]).setCell ⟨g4, 0, none⟩ (.int .i64 9)) D (.deferred none)
    have hrr : ∀ r, some D = some r → ∃ o : Obj, (((W.setCell ⟨g2, 0, none⟩ (.int .i64 0)).setRow g3 #[.int .i64 0, .slice none 0 0]).setCell ⟨g4, 0, none⟩ (.int .i64 9)).heap[r]? = some o ∧ o.isCells = false := fun r e => by cases e; exact ⟨_, HK.out, rfl⟩
    refine ⟨_, take_ret _ g2 g3 g4 rfl rfl rfl _ (row_kept HRR.out.1 hkk hrr) (row_kept HRR.out.2.1 hkk hrr) (row_kept HRR.out.2.2 hkk hrr), ?_⟩
    rw [HTK.out _ HE.out]
    exact SpT.none 9 (Below.trans HEND.out (belowK_b (w := w) (Nat.le_refl _) _ D _ _ (by have := HSZ2.out; omega) HK.out rfl rfl))
  case stop =>
    rintro D c' pre W hD hpre ⟨⟨rfl, hX⟩, hB⟩ hK
    obtain ⟨k, A', c2, h2, h3, h4, h5, h6, h7, h8⟩ := hX
    have hpm : [k] <+: frees us us.length := by
      have := hpre.map (·.1)
      rw [h2, freesF_val] at this
      exact this
    obtain ⟨he, hkl⟩ := frees_head hpm
    have HE := Lib.hid he
    have HRR := Lib.hid (And.intro h3 (And.intro h4 h5))
    have HX := Lib.hid (And.intro h6 (And.intro h7 h8))
    have HBw := Lib.hid hB
    clear h2 h3 h4 h5 h6 h7 h8 hpm he hB
    gi_wp2
    refine ⟨by simp, .inl ⟨_, _, rfl, run_takeDeferred hK, ?_⟩⟩
    have hkk := grownBy_putObj' W D (.deferred none)
    have hrr : ∀ r, some D = some r → ∃ o : Obj, W.heap[r]? = some o ∧ o.isCells = false := fun r e => by cases e; exact ⟨_, hK, rfl⟩
    refine ⟨_, take_ret _ g2 g3 g4 rfl rfl rfl _ (row_kept HRR.out.1 hkk hrr) (row_kept HRR.out.2.1 hkk hrr) (row_kept HRR.out.2.2 hkk hrr), ?_⟩
    rw [HTK.out _ HE.out]
    exact ⟨A', c2, by simp, rdV_kept HX.out.1 hkk hrr, by simpa using HX.out.2.1, HX.out.2.2, Below.trans HBw.out (belowK_b (w := w) (Nat.le_refl _) _ D _ _ (by have := HSZ2.out; omega) hK rfl rfl)⟩
theorem sp_Take (P : Int) (us : List Bool) (A : Option Addr) (c : Nat) (w : World) (hr : RdV w A (us.map .bool)) (hl : us.length ≤ 1000000000) :
    Calls Try.prog 35 #[.agg #[.int .i64 P, .slice A us.length c]] w fun e w' => SpT (spTake P us) w e w' := by
  by_cases hok : spOk P us = true
  · exact sp_Take_ok P us A c w hr hl hok
  · exact sp_Take_bad P us A c w hr hl hok
end Go.Proofs.Ytjhgnohofcahbaa
