/- A loop over a map whose keys are ints. -/
import Derived.Test.YtoidlmhebnlnbaaMp
import Derived.Maps.RangeWalk
set_option linter.unusedVariables false
set_option linter.unusedSimpArgs false
namespace Go.Proofs.Ytoidlmhebnlnbaa
open Go.ChangeShapes Go.WideShapes Go.ChangeAt Go.RowKit Go.MapKept

theorem map_inj_of_nodup {α β : Type} {f : α → β} : ∀ {l : List α}, (l.map f).Nodup → ∀ {x y}, x ∈ l → y ∈ l → f x = f y → x = y
  | [], _, _, _, hx, _, _ => by cases hx
  | a :: l, hn, x, y, hx, hy, he => by
    rw [List.map_cons, List.nodup_cons] at hn
    rcases List.mem_cons.1 hx with rfl | hx'
    · rcases List.mem_cons.1 hy with rfl | hy'
      · rfl
      · exact absurd (he ▸ List.mem_map.2 ⟨y, hy', rfl⟩) hn.1
    · rcases List.mem_cons.1 hy with rfl | hy'
      · exact absurd (he ▸ List.mem_map.2 ⟨x, hx', rfl⟩) hn.1
      · exact map_inj_of_nodup hn.2 hx' hy' he
/-- Block r goes over the map in block m; `left`: who is still to come. -/
def MapIt (w : World) (m r : Nat) (V : List (Int × Value)) (left : Int → Prop) (cnt : Nat) : Prop :=
  ∃ es clock seen c0, w.heap[m]? = some (.map es clock) ∧ es.toList.map (fun e => (e.key, e.val)) = V.map (fun p => (Value.int .i64 p.1, p.2)) ∧ (∀ e ∈ es.toList, e.born < clock) ∧ (es.toList.map (·.born)).Nodup ∧ (V.map (·.1)).Nodup ∧
    w.heap[r]? = some (.mapIter (some m) clock seen c0) ∧ clock ≤ c0 ∧ (leftOf es seen).size = cnt ∧ ∀ e ∈ es.toList, ∀ k, e.key = .int .i64 k → (left k ↔ seen.contains e.born = false)
theorem MapIt.lt {w : World} {m r : Nat} {V : List (Int × Value)} {left : Int → Prop} {cnt : Nat} (h : MapIt w m r V left cnt) : m < w.heap.size ∧ r < w.heap.size ∧ r ≠ m := by
  obtain ⟨es, clock, seen, c0, h1, -, -, -, -, h2, -⟩ := h
  exact ⟨(Array.getElem?_eq_some_iff.1 h1).1, (Array.getElem?_eq_some_iff.1 h2).1, fun e => by subst e; rw [h1] at h2; cases h2⟩
theorem MapIt.move {w w' : World} {m r : Nat} {V : List (Int × Value)} {left : Int → Prop} {cnt : Nat} (h : MapIt w m r V left cnt) (hm : w'.heap[m]? = w.heap[m]?) (hr : w'.heap[r]? = w.heap[r]?) : MapIt w' m r V left cnt := by
  obtain ⟨es, clock, seen, c0, h1, h2, h3, h4, h5, h6, h7⟩ := h
  exact ⟨es, clock, seen, c0, hm.trans h1, h2, h3, h4, h5, hr.trans h6, h7⟩
theorem MapIt.map {w : World} {m r : Nat} {V : List (Int × Value)} {left : Int → Prop} {cnt : Nat} (h : MapIt w m r V left cnt) : MapAt w m V := by
  obtain ⟨es, clock, seen, c0, h1, h2, h3, h4, h5, h6, h7⟩ := h
  exact ⟨es, clock, h1, h2, h3, h4, h5⟩
/-- How many are left, read off the world. -/
theorem MapIt.left_eq {w : World} {m r : Nat} {V : List (Int × Value)} {left : Int → Prop} {cnt : Nat} (h : MapIt w m r V left cnt) : w.rangeLeft m r = cnt := by
  obtain ⟨es, clock, seen, c0, h1, h2, h3, h4, h5, h6, h7, h8, h9⟩ := h
  simp only [World.rangeLeft, h1, h6]; exact h8
section
variable {P : Program} {t k e : TypeId} (ht : P.underlying t = some (.map k e))
include ht
theorem map_range {w : World} {m : Nat} {V : List (Int × Value)} (h : MapAt w m V) :
    ∃ w', (Instr.range t (.map (some m))).run P w = .ok (.pointer (some ⟨w.heap.size, 0, none⟩)) w' ∧ (∃ cnt, MapIt w' m w.heap.size V (fun _ => True) cnt) ∧ FB w w' := by
  have hlt := h.lt
  obtain ⟨es, clock, h1, h2, h3, h4, h5⟩ := h
  refine ⟨_, run_range_map w t k e m es clock ht h1, ⟨_, es, clock, #[], clock, ?_, h2, h3, h4, h5, heap_alloc_new _ _, Nat.le_refl _, rfl, fun e he k hk => by simp⟩, (FB.refl w).alloc _⟩
  rw [((FB.refl w).alloc (.mapIter (some m) clock #[] clock)).block m hlt]; exact h1
end
theorem map_next {P : Program} {w : World} {m r : Nat} {V : List (Int × Value)} {left : Int → Prop} {cnt : Nat} (h : MapIt w m r V left cnt) :
    (cnt = 0 ∧ (∀ p ∈ V, ¬ left p.1) ∧ ∀ ty, (Instr.next (.pointer (some ⟨r, 0, none⟩)) false ty).run P w = .ok (.tuple #[.bool false]) w) ∨
    ∃ k v w' cnt', (k, v) ∈ V ∧ left k ∧ (∀ ty, (Instr.next (.pointer (some ⟨r, 0, none⟩)) false ty).run P w = .ok (.tuple #[.bool true, .int .i64 k, v]) w') ∧
      MapIt w' m r V (fun x => left x ∧ x ≠ k) cnt' ∧ cnt' < cnt ∧ TB r w w' ∧ (Instr.entry (.pointer (some ⟨r, 0, none⟩))).run P w' = .ok (.tuple #[.int .i64 k, v]) w' := by
  have hne := h.lt.2.2
  obtain ⟨es, clock, seen, c0, h1, h2, h3, h4, h5, h6, h7, h8, h9⟩ := h
  have hsome : ∀ p ∈ V, ∃ x ∈ es.toList, x.key = .int .i64 p.1 ∧ x.val = p.2 := fun p hp => by
    have : (Value.int .i64 p.1, p.2) ∈ es.toList.map (fun e => (e.key, e.val)) := by rw [h2]; exact List.mem_map.2 ⟨p, hp, rfl⟩
    obtain ⟨x, hx, hx2⟩ := List.mem_map.1 this
    simp only [Prod.mk.injEq] at hx2
    exact ⟨x, hx, hx2.1, hx2.2⟩
  have hback : ∀ x ∈ es.toList, ∃ p ∈ V, x.key = .int .i64 p.1 ∧ x.val = p.2 := fun x hx => by
    have : (x.key, x.val) ∈ V.map (fun p => (Value.int .i64 p.1, p.2)) := by rw [← h2]; exact List.mem_map.2 ⟨x, hx, rfl⟩
    obtain ⟨p, hp, hp2⟩ := List.mem_map.1 this
    simp only [Prod.mk.injEq] at hp2
    exact ⟨p, hp, hp2.1.symm, hp2.2.symm⟩
  have hkn : (es.toList.map (·.key)).Nodup := by
    have e1 : es.toList.map (·.key) = V.map (fun p => Value.int .i64 p.1) := by
      have := congrArg (List.map Prod.fst) h2
      simpa [List.map_map, Function.comp_def] using this
    rw [e1]
    refine List.pairwise_map.2 (List.Pairwise.imp (fun h e => h ?_) (List.pairwise_map.1 h5))
    injection e
  rcases Nat.eq_zero_or_pos cnt with h0 | h0
  · left
    refine ⟨h0, fun p hp hl => ?_, fun ty => ?_⟩
    · obtain ⟨x, hx, hk, -⟩ := hsome p hp
      have := (h9 x hx p.1 hk).1 hl
      rw [all_seen es seen (h8.trans h0) x hx] at this
      cases this
    · rcases run_next_at (P := P) w ty r m clock c0 seen es clock h6 h1 h3 h7 with ⟨-, hrun⟩ | ⟨x, hx, -⟩
      · exact hrun
      · have : 0 < (leftOf es seen).size := by
          rw [← Array.length_toList]; exact List.length_pos_of_mem hx
        omega
  · right
    have key : ∀ ty, ∃ x ∈ (leftOf es seen).toList, ∃ w1 : World, (w1 = w ∨ w1 = w.drew) ∧ (Instr.next (.pointer (some ⟨r, 0, none⟩)) false ty).run P w = .ok (.tuple #[.bool true, x.key, x.val]) (Go.ChangeMaps.setBlock w1 r (.mapIter (some m) clock (seen.push x.born) clock)) := fun ty => by
      rcases run_next_at (P := P) w ty r m clock c0 seen es clock h6 h1 h3 h7 with ⟨e0, -⟩ | h
      · omega
      · exact h
    obtain ⟨x, hx, w1, hw1, hrun⟩ := key 0
    have hall : ∀ ty, (Instr.next (.pointer (some ⟨r, 0, none⟩)) false ty).run P w = (Instr.next (.pointer (some ⟨r, 0, none⟩)) false 0).run P w := fun ty => rfl
    obtain ⟨hxm, hxs⟩ := mem_left hx
    obtain ⟨p, hp, hpk, hpv⟩ := hback x hxm
    have hb1 : w1.heap = w.heap := by rcases hw1 with rfl | rfl <;> rfl
    have hr1 : w1.heap[r]? = some (.mapIter (some m) clock seen c0) := by rw [hb1]; exact h6
    have hset := heap_set (o' := .mapIter (some m) clock (seen.push x.born) clock) hr1
    have hm1 : (Go.ChangeMaps.setBlock w1 r (.mapIter (some m) clock (seen.push x.born) clock)).heap[m]? = some (.map es clock) := (hset.2 m (fun e => hne e.symm)).trans (by rw [hb1]; exact h1)
    have hen := run_entry_at (P := P) _ r m clock seen es clock x hset.1 hm1 hxm h4
    rw [hpk, hpv] at hrun hen
    refine ⟨p.1, p.2, _, _, hp, (h9 x hxm p.1 hpk).2 hxs, fun ty => (hall ty).trans hrun, ⟨es, clock, seen.push x.born, clock, hm1, h2, h3, h4, h5, hset.1, Nat.le_refl _, rfl, fun y hy ky hky => ?_⟩, h8 ▸ left_shrinks es seen x hx, ?_, hen⟩
    · show (left ky ∧ ky ≠ p.1) ↔ _
      rw [contains_push, h9 y hy ky hky]
      by_cases hb : y.born = x.born
      · obtain rfl := map_inj_of_nodup h4 hy hxm hb
        rw [hpk] at hky
        injection hky with _ e1
        subst e1
        simp
      · have hk : ky ≠ p.1 := fun e => hb (by rw [map_inj_of_nodup hkn hy hxm (by rw [hky, hpk, e])])
        simp [hb, hk]
    · rcases hw1 with rfl | rfl <;> exact ⟨rfl, rfl, rfl, by simp [Go.ChangeMaps.setBlock], fun i _ hi => hset.2 i (fun e1 => hi (by rw [e1]))⟩
theorem wpList_next_run {P : Program} {ops : Array Oper} {rest : List Oper} {o : Oper} {a : Act} {w : World} {Q : Exit → Act → World → Prop} (hgd : o.guard = none) (x : Operand)
    (ho : o.op = Op.next x false) (v : Value) (hx : a.eval x = v) {v' : Value} {w' : World}
    (hr : ∀ ty, (Instr.next v false ty).run P w = .ok v' w') (h : wpList P ops Q rest (a.put o.dst v') w') : wpList P ops Q (o :: rest) a w :=
  wpList_plain hgd fun _ hK => by
    unfold Oper.wp execOp
    simp only [ho, Sem.run_bind, Sem.run_pure, Result.andThen_ok, hx, hr]
    exact hK _ _ h
theorem wpList_range_run {P : Program} {ops : Array Oper} {rest : List Oper} {o : Oper} {a : Act} {w : World} {Q : Exit → Act → World → Prop} (hgd : o.guard = none) (x : Operand) (t : TypeId)
    (ho : o.op = Op.range t x) (v : Value) (hx : a.eval x = v) {v' : Value} {w' : World}
    (hr : (Instr.range t v).run P w = .ok v' w') (h : wpList P ops Q rest (a.put o.dst v') w') : wpList P ops Q (o :: rest) a w :=
  wpList_plain hgd fun _ hK => by
    unfold Oper.wp execOp
    simp only [ho, Sem.run_bind, Sem.run_pure, Result.andThen_ok, hx, hr]
    exact hK _ _ h
end Go.Proofs.Ytoidlmhebnlnbaa
