/- Walks and laws that the claim's last text stands on, several texts in one file: Mpr, DskR, Rws, ChA, ChB, ChP, SchL. Under the hypotheses that each theorem states. -/
import Derived.Maps.RangeWalk
import Derived.Laws.CopyOwn
import Derived.RangeFuncNested
import Derived.RangeFuncBound
import Derived.RangeFuncCalls
import Derived.RangeFuncLeaves
import Derived.RangeFuncBox
import Derived.Shelf.Abstract
import Derived.OwnWalkIn
import Derived.TacticsInMore
import Derived.LoopNIn
import Derived.LoopIn
import Derived.Maps.AppendAt
import Derived.Sort.QuietIn
import Derived.Sort.CutIn
import Derived.Test.YtoidlmhebnlnbaaDoorMCha
import Derived.Test.YtoidlmhebnlnbaaDoorMChb
import Derived.Test.YtoidlmhebnlnbaaDoorMChc
import Derived.Test.YtoidlmhebnlnbaaDoorMChd
/- A loop over a map whose keys are ints. -/
set_option linter.unusedVariables false
set_option linter.unusedSimpArgs false
namespace Go.Proofs.YtoidlmhebnlnbaaDoor
open Go.ChangeShapes Go.WideShapes Go.ChangeAt Go.RowKit Go.MapKept

theorem map_inj_of_nodup {α β : Type} {f : α → β} : ∀ {l : List α}, (l.map f).Nodup → ∀ {x y}, x ∈ l → y ∈ l → f x = f y → x = y
  | [], _, _, _, hx, _, _ => by cases hx
  | a :: l, hn, x, y, hx, hy, he => by
    rw [List.map_cons, List.nodup_cons] at hn
    rcases List.mem_cons.1 hx with rfl | hx'
    · rcases List.mem_cons.1 hy with rfl | hy'
      · rfl
      · exact absurd (he ▸ List.mem_map.2 ⟨y, hy', rfl⟩) hn.1
    · rcases List.mem_cons.1 hy with rfl | hy'
      · exact absurd (he ▸ List.mem_map.2 ⟨x, hx', rfl⟩) hn.1
      · exact map_inj_of_nodup hn.2 hx' hy' he
/-- Block r goes over the map in block m; `left`: who is still to come. -/
def MapIt (w : World) (m r : Nat) (V : List (Int × Value)) (left : Int → Prop) (cnt : Nat) : Prop :=
  ∃ es clock seen c0, w.heap[m]? = some (.map es clock) ∧ es.toList.map (fun e => (e.key, e.val)) = V.map (fun p => (Value.int .i64 p.1, p.2)) ∧ (∀ e ∈ es.toList, e.born < clock) ∧ (es.toList.map (·.born)).Nodup ∧ (V.map (·.1)).Nodup ∧
    w.heap[r]? = some (.mapIter (some m) clock seen c0) ∧ clock ≤ c0 ∧ (leftOf es seen).size = cnt ∧ ∀ e ∈ es.toList, ∀ k, e.key = .int .i64 k → (left k ↔ seen.contains e.born = false)
theorem MapIt.lt {w : World} {m r : Nat} {V : List (Int × Value)} {left : Int → Prop} {cnt : Nat} (h : MapIt w m r V left cnt) : m < w.heap.size ∧ r < w.heap.size ∧ r ≠ m := by
  obtain ⟨es, clock, seen, c0, h1, -, -, -, -, h2, -⟩ := h
  exact ⟨(Array.getElem?_eq_some_iff.1 h1).1, (Array.getElem?_eq_some_iff.1 h2).1, fun e => by subst e; rw [h1] at h2; cases h2⟩
theorem MapIt.move {w w' : World} {m r : Nat} {V : List (Int × Value)} {left : Int → Prop} {cnt : Nat} (h : MapIt w m r V left cnt) (hm : w'.heap[m]? = w.heap[m]?) (hr : w'.heap[r]? = w.heap[r]?) : MapIt w' m r V left cnt := by
  obtain ⟨es, clock, seen, c0, h1, h2, h3, h4, h5, h6, h7⟩ := h
  exact ⟨es, clock, seen, c0, hm.trans h1, h2, h3, h4, h5, hr.trans h6, h7⟩
theorem MapIt.map {w : World} {m r : Nat} {V : List (Int × Value)} {left : Int → Prop} {cnt : Nat} (h : MapIt w m r V left cnt) : MapAt w m V := by
  obtain ⟨es, clock, seen, c0, h1, h2, h3, h4, h5, h6, h7⟩ := h
  exact ⟨es, clock, h1, h2, h3, h4, h5⟩
/-- How many are left, read off the world. -/
theorem MapIt.left_eq {w : World} {m r : Nat} {V : List (Int × Value)} {left : Int → Prop} {cnt : Nat} (h : MapIt w m r V left cnt) : w.rangeLeft m r = cnt := by
  obtain ⟨es, clock, seen, c0, h1, h2, h3, h4, h5, h6, h7, h8, h9⟩ := h
  simp only [World.rangeLeft, h1, h6]; exact h8
section
variable {P : Program} {t k e : TypeId} (ht : P.underlying t = some (.map k e))
include ht
theorem map_range {w : World} {m : Nat} {V : List (Int × Value)} (h : MapAt w m V) :
    ∃ w', (Instr.range t (.map (some m))).run P w = .ok (.pointer (some ⟨w.heap.size, 0, none⟩)) w' ∧ (∃ cnt, MapIt w' m w.heap.size V (fun _ => True) cnt) ∧ FB w w' := by
  have hlt := h.lt
  obtain ⟨es, clock, h1, h2, h3, h4, h5⟩ := h
  refine ⟨_, run_range_map w t k e m es clock ht h1, ⟨_, es, clock, #[], clock, ?_, h2, h3, h4, h5, heap_alloc_new _ _, Nat.le_refl _, rfl, fun e he k hk => by simp⟩, (FB.refl w).alloc _⟩
  rw [((FB.refl w).alloc (.mapIter (some m) clock #[] clock)).block m hlt]; exact h1
end
theorem map_next {P : Program} {w : World} {m r : Nat} {V : List (Int × Value)} {left : Int → Prop} {cnt : Nat} (h : MapIt w m r V left cnt) :
    (cnt = 0 ∧ (∀ p ∈ V, ¬ left p.1) ∧ ∀ ty, (Instr.next (.pointer (some ⟨r, 0, none⟩)) false ty).run P w = .ok (.tuple #[.bool false]) w) ∨
    ∃ k v w' cnt', (k, v) ∈ V ∧ left k ∧ (∀ ty, (Instr.next (.pointer (some ⟨r, 0, none⟩)) false ty).run P w = .ok (.tuple #[.bool true, .int .i64 k, v]) w') ∧
      MapIt w' m r V (fun x => left x ∧ x ≠ k) cnt' ∧ cnt' < cnt ∧ TB r w w' ∧ (Instr.entry (.pointer (some ⟨r, 0, none⟩))).run P w' = .ok (.tuple #[.int .i64 k, v]) w' := by
  have hne := h.lt.2.2
  obtain ⟨es, clock, seen, c0, h1, h2, h3, h4, h5, h6, h7, h8, h9⟩ := h
  have hsome : ∀ p ∈ V, ∃ x ∈ es.toList, x.key = .int .i64 p.1 ∧ x.val = p.2 := fun p hp => by
    have : (Value.int .i64 p.1, p.2) ∈ es.toList.map (fun e => (e.key, e.val)) := by rw [h2]; exact List.mem_map.2 ⟨p, hp, rfl⟩
    obtain ⟨x, hx, hx2⟩ := List.mem_map.1 this
    simp only [Prod.mk.injEq] at hx2
    exact ⟨x, hx, hx2.1, hx2.2⟩
  have hback : ∀ x ∈ es.toList, ∃ p ∈ V, x.key = .int .i64 p.1 ∧ x.val = p.2 := fun x hx => by
    have : (x.key, x.val) ∈ V.map (fun p => (Value.int .i64 p.1, p.2)) := by rw [← h2]; exact List.mem_map.2 ⟨x, hx, rfl⟩
    obtain ⟨p, hp, hp2⟩ := List.mem_map.1 this
    simp only [Prod.mk.injEq] at hp2
    exact ⟨p, hp, hp2.1.symm, hp2.2.symm⟩
  have hkn : (es.toList.map (·.key)).Nodup := by
    have e1 : es.toList.map (·.key) = V.map (fun p => Value.int .i64 p.1) := by
      have := congrArg (List.map Prod.fst) h2
      simpa [List.map_map, Function.comp_def] using this
    rw [e1]
    refine List.pairwise_map.2 (List.Pairwise.imp (fun h e => h ?_) (List.pairwise_map.1 h5))
    injection e
  rcases Nat.eq_zero_or_pos cnt with h0 | h0
  · left
    refine ⟨h0, fun p hp hl => ?_, fun ty => ?_⟩
    · obtain ⟨x, hx, hk, -⟩ := hsome p hp
      have := (h9 x hx p.1 hk).1 hl
      rw [all_seen es seen (h8.trans h0) x hx] at this
      cases this
    · rcases run_next_at (P := P) w ty r m clock c0 seen es clock h6 h1 h3 h7 with ⟨-, hrun⟩ | ⟨x, hx, -⟩
      · exact hrun
      · have : 0 < (leftOf es seen).size := by
          rw [← Array.length_toList]; exact List.length_pos_of_mem hx
        omega
  · right
    have key : ∀ ty, ∃ x ∈ (leftOf es seen).toList, ∃ w1 : World, (w1 = w ∨ w1 = w.drew) ∧ (Instr.next (.pointer (some ⟨r, 0, none⟩)) false ty).run P w = .ok (.tuple #[.bool true, x.key, x.val]) (Go.ChangeMaps.setBlock w1 r (.mapIter (some m) clock (seen.push x.born) clock)) := fun ty => by
      rcases run_next_at (P := P) w ty r m clock c0 seen es clock h6 h1 h3 h7 with ⟨e0, -⟩ | h
      · omega
      · exact h
    obtain ⟨x, hx, w1, hw1, hrun⟩ := key 0
    have hall : ∀ ty, (Instr.next (.pointer (some ⟨r, 0, none⟩)) false ty).run P w = (Instr.next (.pointer (some ⟨r, 0, none⟩)) false 0).run P w := fun ty => rfl
    obtain ⟨hxm, hxs⟩ := mem_left hx
    obtain ⟨p, hp, hpk, hpv⟩ := hback x hxm
    have hb1 : w1.heap = w.heap := by rcases hw1 with rfl | rfl <;> rfl
    have hr1 : w1.heap[r]? = some (.mapIter (some m) clock seen c0) := by rw [hb1]; exact h6
    have hset := heap_set (o' := .mapIter (some m) clock (seen.push x.born) clock) hr1
    have hm1 : (Go.ChangeMaps.setBlock w1 r (.mapIter (some m) clock (seen.push x.born) clock)).heap[m]? = some (.map es clock) := (hset.2 m (fun e => hne e.symm)).trans (by rw [hb1]; exact h1)
    have hen := run_entry_at (P := P) _ r m clock seen es clock x hset.1 hm1 hxm h4
    rw [hpk, hpv] at hrun hen
    refine ⟨p.1, p.2, _, _, hp, (h9 x hxm p.1 hpk).2 hxs, fun ty => (hall ty).trans hrun, ⟨es, clock, seen.push x.born, clock, hm1, h2, h3, h4, h5, hset.1, Nat.le_refl _, rfl, fun y hy ky hky => ?_⟩, h8 ▸ left_shrinks es seen x hx, ?_, hen⟩
    · show (left ky ∧ ky ≠ p.1) ↔ _
      rw [contains_push, h9 y hy ky hky]
      by_cases hb : y.born = x.born
      · obtain rfl := map_inj_of_nodup h4 hy hxm hb
        rw [hpk] at hky
        injection hky with _ e1
        subst e1
        simp
      · have hk : ky ≠ p.1 := fun e => hb (by rw [map_inj_of_nodup hkn hy hxm (by rw [hky, hpk, e])])
        simp [hb, hk]
    · rcases hw1 with rfl | rfl <;> exact ⟨rfl, rfl, rfl, by simp [Go.ChangeMaps.setBlock], fun i _ hi => hset.2 i (fun e1 => hi (by rw [e1]))⟩
theorem wpList_next_run {P : Program} {ops : Array Oper} {rest : List Oper} {o : Oper} {a : Act} {w : World} {Q : Exit → Act → World → Prop} (hgd : o.guard = none) (x : Operand)
    (ho : o.op = Op.next x false) (v : Value) (hx : a.eval x = v) {v' : Value} {w' : World}
    (hr : ∀ ty, (Instr.next v false ty).run P w = .ok v' w') (h : wpList P ops Q rest (a.put o.dst v') w') : wpList P ops Q (o :: rest) a w :=
  wpList_plain hgd fun _ hK => by
    unfold Oper.wp execOp
    simp only [ho, Sem.run_bind, Sem.run_pure, Result.andThen_ok, hx, hr]
    exact hK _ _ h
theorem wpList_range_run {P : Program} {ops : Array Oper} {rest : List Oper} {o : Oper} {a : Act} {w : World} {Q : Exit → Act → World → Prop} (hgd : o.guard = none) (x : Operand) (t : TypeId)
    (ho : o.op = Op.range t x) (v : Value) (hx : a.eval x = v) {v' : Value} {w' : World}
    (hr : (Instr.range t v).run P w = .ok v' w') (h : wpList P ops Q rest (a.put o.dst v') w') : wpList P ops Q (o :: rest) a w :=
  wpList_plain hgd fun _ hK => by
    unfold Oper.wp execOp
    simp only [ho, Sem.run_bind, Sem.run_pure, Result.andThen_ok, hx, hr]
    exact hK _ _ h
end Go.Proofs.YtoidlmhebnlnbaaDoor
/- A disk: the walk through Flush. -/
set_option linter.unusedVariables false
set_option linter.unusedSimpArgs false
namespace Go.Proofs.YtoidlmhebnlnbaaDoor
open Go.ChangeShapes Go.WideShapes Go.ChangeAt Go.RowKit Go.MapKept

theorem mget_of_mem : ∀ {V : List (Int × Value)}, (V.map (·.1)).Nodup → ∀ {k : Int} {v : Value}, (k, v) ∈ V → mget V k = some v
  | [], _, _, _, h => by cases h
  | (k', v') :: V, hn, k, v, h => by
    rw [List.map_cons, List.nodup_cons] at hn
    rw [mget]
    rcases List.mem_cons.1 h with e | h'
    · cases e; rw [if_pos rfl]
    · rw [if_neg (fun e => hn.1 (List.mem_map.2 ⟨(k, v), h', e.symm⟩))]
      exact mget_of_mem hn.2 h'
/-- What the bytes are when some are still to come. -/
def FlushAt (M : List (Int × List Byte)) (b b' : List Byte) (n : Nat) (left : Int → Prop) : Prop :=
  b'.length = 512 * n ∧ ∀ k, k < n → (left (k : Int) → sec b' k = sec b k) ∧ (¬ left (k : Int) → sec b' k = (cget M k).getD (sec b k))
theorem FlushAt.step {M : List (Int × List Byte)} {b b' : List Byte} {n : Nat} {left : Int → Prop} (h : FlushAt M b b' n left) {k : Nat} (hk : k < n) {x : List Byte} (hx : x.length = 512) (hc : cget M (k : Int) = some x) :
    FlushAt M b (splice b' (512 * k) x) n (fun y => left y ∧ y ≠ (k : Int)) := by
  refine ⟨by rw [length_splice _ _ _ (by rw [h.1]; omega)]; exact h.1, fun k' hk' => ?_⟩
  by_cases e : k' = k
  · subst e
    refine ⟨fun h' => absurd rfl h'.2, fun _ => ?_⟩
    rw [sec_splice_same h.1 hk (by omega), List.drop_of_length_le (by rw [sec_len h.1 hk]; omega), List.append_nil, hc]; rfl
  · rw [sec_splice_other h.1 hk (by omega) e]
    have := h.2 k' hk'
    exact ⟨fun h' => this.1 h'.1, fun h' => this.2 (fun hl => h' ⟨hl, by omega⟩)⟩
theorem FlushAt.done {M : List (Int × List Byte)} {b b' : List Byte} {n : Nat} {left : Int → Prop} (h : FlushAt M b b' n left) (hb : b.length = 512 * n) (hM : ∀ p ∈ M, 0 ≤ p.1 ∧ p.1 < n ∧ p.2.length = 512) (hn : (M.map (·.1)).Nodup) (hl : ∀ p ∈ M, ¬ left p.1) : b' = flushB M b :=
  flushB_of hb h.1 hM hn (fun k hk => by
    have := h.2 k hk
    by_cases e : left (k : Int)
    · rw [this.1 e]
      cases hc : cget M (k : Int) with
      | none => rfl
      | some x =>
        obtain ⟨i, hi, hx⟩ := cget_some_at hc
        exact absurd e (hl _ (List.mem_of_getElem? hx))
    · exact this.2 e)
/-- What Flush returns, and leaves. -/
def sdFlush (D : DiskSt) : Int × DiskSt := if (ffail D.fuse).1 then (8, { D with fuse := (ffail D.fuse).2 }) else (0, ⟨flushB D.M D.b, [], (ffail D.fuse).2⟩)
end Go.Proofs.YtoidlmhebnlnbaaDoor
/- Lists of bytes in memory ([][]byte) that the call made: a block of slices, whose bytes lie outside some blocks. -/
set_option linter.unusedVariables false
set_option linter.unusedSimpArgs false
namespace Go.Proofs.YtoidlmhebnlnbaaDoor
open Go.ChangeShapes Go.WideShapes Go.ChangeAt Go.RowKit Go.MapKept

theorem info_bs : (Tryd.prog.info? 27).map (fun i => (i.zero, i.size, i.bytes)) = some (some (.slice none 0 0), 1, 24) := by kernel_rfl
/-- Block g holds slices that read as ls; their bytes lie outside X. -/
def RowsAt (w : World) (X : List Nat) (g : Nat) (ls : List (List Byte)) : Prop :=
  ∃ cs : Array Value, w.heap[g]? = some (.cells cs 27 (0, 0)) ∧ cs.size = ls.length ∧ g ∈ X ∧
    ∀ i (h : i < ls.length), ∃ A c, cs[i]? = some (.slice A ls[i].length c) ∧ ls[i].length ≤ c ∧ c ≤ maxLen ∧ Rd w A ls[i] ∧ ∀ ad, A = some ad → ad.block ∉ X ∧ ad.block < w.heap.size
section
variable {w w' : World} {X X' F : List Nat} {g : Nat} {ls : List (List Byte)}
theorem RowsAt.lt (h : RowsAt w X g ls) : g < w.heap.size := by
  obtain ⟨cs, h1, -⟩ := h
  exact (Array.getElem?_eq_some_iff.1 h1).1
theorem RowsAt.ts (h : RowsAt w X g ls) (k : TS F w w') (hg : g ∉ F) (hF : ∀ x ∈ F, x ∈ X) : RowsAt w' X g ls := by
  obtain ⟨cs, h1, h2, h3, h4⟩ := h
  refine ⟨cs, (k.block g (Array.getElem?_eq_some_iff.1 h1).1 hg).trans h1, h2, h3, fun i hi => ?_⟩
  obtain ⟨A, c, e1, e2, e3, e4, e5⟩ := h4 i hi
  exact ⟨A, c, e1, e2, e3, k.rd e4 (fun ad ha hf => (e5 ad ha).1 (hF _ hf)), fun ad ha => ⟨(e5 ad ha).1, Nat.lt_of_lt_of_le (e5 ad ha).2 k.size⟩⟩
theorem RowsAt.fb (h : RowsAt w X g ls) (k : FB w w') : RowsAt w' X g ls := h.ts (TS.of (F := []) k) (by simp) (by simp)
theorem RowsAt.widen (h : RowsAt w X g ls) (hX : ∀ x ∈ X', x ∈ X ∨ w.heap.size ≤ x) (hg : g ∈ X') : RowsAt w X' g ls := by
  obtain ⟨cs, h1, h2, h3, h4⟩ := h
  refine ⟨cs, h1, h2, hg, fun i hi => ?_⟩
  obtain ⟨A, c, e1, e2, e3, e4, e5⟩ := h4 i hi
  refine ⟨A, c, e1, e2, e3, e4, fun ad ha => ⟨fun hm => ?_, (e5 ad ha).2⟩⟩
  rcases hX _ hm with hm | hm
  · exact (e5 ad ha).1 hm
  · have := (e5 ad ha).2; omega
theorem RowsAt.get (h : RowsAt w X g ls) (i : Nat) (hi : i < ls.length) : ∃ A c, w.cell? ⟨g, i, none⟩ = some (.slice A ls[i].length c) ∧ ls[i].length ≤ c ∧ c ≤ maxLen ∧ Rd w A ls[i] ∧ w.frozen? ⟨g, i, none⟩ = false ∧ ∀ ad, A = some ad → ad.block ∉ X := by
  obtain ⟨cs, h1, h2, h3, h4⟩ := h
  obtain ⟨A, c, e1, e2, e3, e4, e5⟩ := h4 i hi
  exact ⟨A, c, by rw [cell_of_row _ _ _ _ _ _ h1]; exact e1, e2, e3, e4, frozen_row _ h1 i, fun ad ha => (e5 ad ha).1⟩
/-- A row laid at a place. -/
theorem RowsAt.set (h : RowsAt w X g ls) (i : Nat) (hi : i < ls.length) {A : Option Addr} {c : Nat} {xs : List Byte} (hr : Rd w A xs) (h1 : xs.length ≤ c) (h2 : c ≤ maxLen) (hA : ∀ ad, A = some ad → ad.block ∉ X ∧ ad.block < w.heap.size) :
    RowsAt (w.setCell ⟨g, i, none⟩ (.slice A xs.length c)) X g (ls.set i xs) ∧ TB g w (w.setCell ⟨g, i, none⟩ (.slice A xs.length c)) := by
  obtain ⟨cs, k1, k2, k3, k4⟩ := h
  have htb : TB g w (w.setCell ⟨g, i, none⟩ (.slice A xs.length c)) := TB.set w i _
  have hts : TS [g] w (w.setCell ⟨g, i, none⟩ (.slice A xs.length c)) := TS.tb htb (by simp)
  refine ⟨⟨cs.setIfInBounds i (.slice A xs.length c), ?_, by simp [k2], k3, fun j hj => ?_⟩, htb⟩
  · rw [heap_setCell_same _ _ _ _ _ _ k1]
  · rw [List.length_set] at hj
    by_cases e : i = j
    · subst e
      refine ⟨A, c, ?_, by simpa using h1, h2, ?_, fun ad ha => ⟨(hA ad ha).1, by simpa using (hA ad ha).2⟩⟩
      · simp [k2, hi]
      · simp only [List.getElem_set_self]
        exact hts.rd hr (fun ad ha hm => (hA ad ha).1 (by simp at hm; rw [hm]; exact k3))
    · obtain ⟨A', c', e1, e2, e3, e4, e5⟩ := k4 j hj
      simp only [List.getElem_set_ne e]
      refine ⟨A', c', ?_, e2, e3, hts.rd e4 (fun ad ha hm => (e5 ad ha).1 (by simp at hm; rw [hm]; exact k3)), fun ad ha => ⟨(e5 ad ha).1, by simpa using (e5 ad ha).2⟩⟩
      rw [Array.getElem?_setIfInBounds_ne e]; exact e1
/-- All rows copied onto as many. -/
theorem RowsAt.copy {gs : Nat} {us : List (List Byte)} (h : RowsAt w X g ls) (hs : RowsAt w X gs us) (hl : ls.length = us.length) (n : Nat) (hn : n = us.length) (ca cb : Nat) :
    ∃ w', (∀ ty, (Builtin.copy_ #[22, 22] ty #[.slice (some ⟨g, 0, none⟩) n ca, .slice (some ⟨gs, 0, none⟩) n cb]).run Tryd.prog w = .ok (goInt n) w') ∧ RowsAt w' X g us ∧ TB g w w' := by
  subst hn
  obtain ⟨cs, k1, k2, k3, k4⟩ := h
  obtain ⟨ds, q1, q2, q3, q4⟩ := hs
  obtain ⟨i, hi, _, hsz, _⟩ := info_parts info_bs
  have hsz1 : (Tryd.prog.info? 27).map (·.size) = some 1 := by rw [hi]; simp [hsz]
  have hone : ∀ v ∈ ds.toList, v.oneCell' = true := fun v hv => by
    obtain ⟨j, hj⟩ := List.getElem?_of_mem hv
    have hjl := (List.getElem?_eq_some_iff.1 hj).1
    obtain ⟨A, c, e1, -⟩ := q4 j (by simp at hjl; omega)
    rw [Array.getElem?_toList, e1] at hj
    cases hj; rfl
  have hrun := fun ty => run_copy_row (P := Tryd.prog) w 22 22 ty 27 g 0 us.length ca ⟨gs, 0, none⟩ us.length cb cs 27 ds.toList Tryd.underlying22 hsz1 k1 (by simp [q2]) (fun j v hj => by
    rw [show (⟨gs, 0, none⟩ : Addr).add j = ⟨gs, j, none⟩ from by unfold Addr.add; split <;> simp_all, cell_of_row _ _ _ _ _ _ q1]
    simpa using hj) (by simp; omega) hone
  rw [show ds.toList.length = us.length from by simp [q2]] at hrun
  refine ⟨_, hrun, ?_, TB.row _ _ _⟩
  have hts := TS.tb (F := [g]) (TB.row g w (cs.toList.take 0 ++ ds.toList ++ cs.toList.drop (0 + us.length)).toArray) (by simp)
  have hrow := setRow_heap w g cs (cs.toList.take 0 ++ ds.toList ++ cs.toList.drop (0 + us.length)).toArray _ _ k1
  have hsame : (cs.toList.take 0 ++ ds.toList ++ cs.toList.drop (0 + us.length)).toArray = ds := by
    rw [List.take_zero, List.nil_append, List.drop_of_length_le (by simp; omega), List.append_nil]
  rw [hsame] at hrow hts ⊢
  refine ⟨ds, hrow, q2, k3, fun j hj => ?_⟩
  obtain ⟨A, c, e1, e2, e3, e4, e5⟩ := q4 j hj
  exact ⟨A, c, e1, e2, e3, hts.rd e4 (fun ad ha hm => (e5 ad ha).1 (by simp at hm; rw [hm]; exact k3)), fun ad ha => ⟨(e5 ad ha).1, Nat.lt_of_lt_of_le (e5 ad ha).2 hts.size⟩⟩
end
/-- make([][]byte, n). -/
theorem mk_rows (n : Nat) (hn : n ≤ 100000000) : ∃ C : Array Value,
    (∀ W : World, (Instr.makeSlice 22 (.int .i64 (n : Int)) (.int .i64 (n : Int))).run Tryd.prog W = .ok (.slice (some ⟨W.heap.size, 0, none⟩) n n) (W.alloc (.cells C 27))) ∧
    C = (List.replicate n (Value.slice none 0 0)).toArray := by
  obtain ⟨i, hi, hz, hsz, hb⟩ := info_parts info_bs
  refine ⟨madeCells #[.slice none 0 0] n, fun W => ?_, ?_⟩
  · have h := run_make (P := Tryd.prog) W 22 27 i _ Tryd.underlying22 hi hz .i64 .i64 (n : Int) (n : Int) (by omega) (Int.le_refl _) (by rw [hb]; omega) (by omega)
    rw [hsz] at h
    simpa [Value.cells] using h
  · rw [← toList_madeCells_one]
theorem RowsAt.mk {w : World} {X : List Nat} {n : Nat} {C : Array Value} (hC : C = (List.replicate n (Value.slice none 0 0)).toArray) (hg : w.heap.size ∈ X) : RowsAt (w.alloc (.cells C 27)) X w.heap.size (List.replicate n []) := by
  subst hC
  refine ⟨_, heap_alloc_new _ _, by simp, hg, fun i hi => ⟨none, 0, ?_, by simp, by simp [maxLen], ?_, fun ad ha => by cases ha⟩⟩
  · rw [List.length_replicate] at hi
    simp [hi]
  · simp only [List.getElem_replicate]; exact Rd.nil _ _
end Go.Proofs.YtoidlmhebnlnbaaDoor
/- chain: isKind, Need; bytes in pieces (slices.Chunk, Collect). -/
set_option linter.unusedVariables false
set_option linter.unusedSimpArgs false
namespace Go.Proofs.YtoidlmhebnlnbaaDoor
open Go.ChangeShapes Go.WideShapes Go.ChangeAt Go.RowKit Go.Shelf
attribute [local go_sem] Oper.semAt_some
set_option maxRecDepth 100000

theorem below_drewN (B : Nat) (w : World) (n : Nat) : Below B w (w.drewN n) := ⟨rfl, rfl, rfl, Nat.le_refl _, fun _ _ => rfl⟩
theorem grown_drewN (w : World) (n : Nat) : w.grownBy (w.drewN n) none := ⟨rfl, rfl, rfl, Nat.le_refl _, fun _ _ _ => rfl⟩
def chIs (k : Int) : Bool := k == 2 || (k == 3 || k == 7)
set_option maxHeartbeats 400000 in
theorem ch_isKind (k : Int) (w : World) : Calls Tryd.prog 21 #[.int .i64 k] w fun e w' => e = .returned (.bool (chIs k)) ∧ w = w' := by
  unfold chIs
  cases h2 : (k == 2) with
  | true =>
    go_enter Tryd.func21, Tryd.ntmps21
    go_wp2
    go_ret
    exact ⟨rfl, rfl⟩
  | false =>
    cases h3 : (k == 3) with
    | true =>
      go_enter Tryd.func21, Tryd.ntmps21
      go_wp2
      go_ret
      exact ⟨rfl, rfl⟩
    | false =>
      go_enter Tryd.func21, Tryd.ntmps21
      go_wp2
      go_ret
      exact ⟨rfl, rfl⟩
/-- How many pages so many bytes need. -/
def chNeed (n : Int) : Int := (max 1 n - 1) / 4074 + 1
theorem chNeed_nat (n : Nat) : chNeed n = ((max 1 n - 1) / 4074 + 1 : Nat) := by unfold chNeed; omega
set_option maxHeartbeats 400000 in
theorem ch_Need (n : Int) (w : World) (hn : -9223372036854775808 ≤ n ∧ n ≤ 9223372036854775807) : Calls Tryd.prog 13 #[.int .i64 n] w fun e w' => e = .returned (.int .i64 (chNeed n)) ∧ w = w' := by
  obtain ⟨m, hm⟩ : ∃ m, m = max 1 n := ⟨_, rfl⟩
  have hm1 : 1 ≤ m := by omega
  have hm2 : m ≤ 9223372036854775807 := by omega
  have hw1 : IntKind.i64.wrap (m - 1) = m - 1 := by rw [IntKind.wrap_i64]; omega
  have hq : (m - 1).tdiv 4074 = (m - 1) / 4074 := Int.tdiv_eq_ediv_of_nonneg (by omega)
  have hw2 : IntKind.i64.wrap ((m - 1) / 4074) = (m - 1) / 4074 := by rw [IntKind.wrap_i64]; omega
  have hw3 : IntKind.i64.wrap ((m - 1) / 4074 + 1) = (m - 1) / 4074 + 1 := by rw [IntKind.wrap_i64]; omega
  have HE := Lib.hid (show chNeed n = (m - 1) / 4074 + 1 from by unfold chNeed; rw [hm])
  go_enter Tryd.func13, Tryd.ntmps13
  by_cases h : n ≤ 1
  · obtain rfl : m = 1 := by omega
    clear hm
    have hx : max 1 n = 1 := by omega
    go_wp2
    all_goals go_ret
    all_goals exact ⟨by rw [HE.out]; rfl, rfl⟩
  · obtain rfl : m = n := by omega
    clear hm
    have hx : max 1 m = m := by omega
    go_wp2
    all_goals go_ret
    all_goals exact ⟨by rw [HE.out]; rfl, rfl⟩
/-- x[k:k+n:k+n]. -/
theorem cut3 (b o c len k n : Nat) (hn : 1 ≤ n) (hk : k + n ≤ len) (hc : len ≤ c) (W : World) :
    (Instr.slice 27 (.slice (some ⟨b, o, none⟩) len c) (some (.int .i64 (k : Int))) (some (.int .i64 ((k : Int) + (n : Int)))) (some (.int .i64 ((k : Int) + (n : Int))))).run Tryd.prog W = .ok (.slice (some ⟨b, o + k, none⟩) n n) W := by
  obtain ⟨i, hi, _, hsz, _⟩ := info_parts info_u8
  have hel : Tryd.prog.elem 27 = 5 := by simp [Program.elem, Tryd.underlying27]
  have hu : Tryd.prog.underlying 27 = some (.slice (Tryd.prog.elem 27)) := by rw [hel]; exact Tryd.underlying27
  rw [run_slice_lhm W 27 (some ⟨b, o, none⟩) len c hu .i64 .i64 .i64 (k : Int) ((k : Int) + (n : Int)) ((k : Int) + (n : Int)) (Int.natCast_nonneg _) (by omega) (by omega) (by omega), hel]
  have e1 : ((k : Int) + (n : Int)).toNat - k = n := by omega
  have e2 : n ≠ 0 := by omega
  simp [sizeOf, typeInfo, hi, hsz, sliced, Result.andThen, e2, Addr.add]
  refine ⟨?_, e1⟩
  rw [if_neg (by omega)]
  by_cases h : k = 0
  · subst h; simp
  · simp [h]
/-- How many pieces; the length of one. -/
def chM (len : Nat) : Nat := (len + 4073) / 4074
def chLen (len i : Nat) : Nat := min 4074 (len - 4074 * i)
theorem chLen_pos {len i : Nat} (h : i < chM len) : 1 ≤ chLen len i ∧ 4074 * i + chLen len i ≤ len ∧ 4074 * i < len := by unfold chM at h; unfold chLen; omega
def chFs (m : Nat) : (k : Nat) → k ≤ m → List (Fin m)
  | 0, _ => []
  | k + 1, h => chFs m k (by omega) ++ [⟨k, h⟩]
theorem chFs_len (m : Nat) : ∀ (k : Nat) (h : k ≤ m), (chFs m k h).length = k
  | 0, _ => rfl
  | k + 1, h => by rw [chFs, List.length_append, chFs_len m k]; rfl
theorem chFs_val (m : Nat) : ∀ (k : Nat) (h : k ≤ m), (chFs m k h).map (·.1) = List.range k
  | 0, _ => rfl
  | k + 1, h => by rw [chFs, List.map_append, chFs_val m k, List.range_succ]; rfl
def chItem (b o len : Nat) (i : Nat) : Value := .slice (some ⟨b, o + 4074 * i, none⟩) (chLen len i) (chLen len i)
set_option maxHeartbeats 2000000 in
theorem chunk1_in (n : Nat) (hn : 1 ≤ n) (l n₀ : Nat) (Bs Bn : Nat) (A : Option Addr) (b o c len : Nat) (hA : 0 < len → A = some ⟨b, o, none⟩) (hl : len ≤ 1000000000) (hc : len ≤ c) (J Jx : List (Fin (chM len)) → World → Prop)
    (hY : ∀ (pre : List (Fin (chM len))) (x : Fin (chM len)) (W : World), J pre W → pre.length < chM len → YieldAt Fence.wide (n - 1) Tryd.prog l #[chItem b o len x.1] W fun e W' =>
      (e = .returned (.bool true) ∧ J (pre ++ [x]) W' ∧ Below n₀ W W') ∨ (e = .returned (.bool false) ∧ Jx (pre ++ [x]) W'))
    (W : World) (hBs : ∀ W', Below n₀ W W' → W'.cell? ⟨Bs, 0, none⟩ = some (.slice A len c)) (hBn : ∀ W', Below n₀ W W' → W'.cell? ⟨Bn, 0, none⟩ = some (.int .i64 4074)) (hJd : ∀ pre W' n, J pre W' → J pre (W'.drewN n)) (h0 : J [] W) :
    CallsIn Fence.wide n Tryd.prog 42 #[.func (.yield l) #[] #[], .pointer (some ⟨Bs, 0, none⟩), .pointer (some ⟨Bn, 0, none⟩)] W fun e W' => (∃ v, e = .returned v) ∧
      ((∃ ys, ys = chFs (chM len) (chM len) (Nat.le_refl _) ∧ J ys W') ∨ (∃ pre : List (Fin (chM len)), True ∧ Jx pre W')) := by
  have HC := Lib.hid hBs
  have HN := Lib.hid hBn
  have HY := Lib.hid hY
  have HJD := Lib.hid hJd
  clear hBs hBn hY hJd
  refine callsIn_of_wp Tryd.func42 rfl trivial ?_ rfl
  simp only [Tryd.ntmps42, List.size_toArray, List.length_cons, List.length_nil, Nat.reduceAdd, Nat.reduceSub, Array.replicate_succ, Array.replicate_zero, List.push_toArray, List.append_toArray, List.nil_append, List.cons_append]
  gi_wp2
  gi_loopw [4] (fun i wr => ∃ (k z : Nat) (hk : k ≤ chM len), i = .int .i64 z ∧ Hid (z = 4074 * k) ∧ J (chFs (chM len) k hk) wr ∧ Below n₀ W wr)
    (fun i _ => 4074 * chM len - (intOf i).toNat)
  case atStart => exact ⟨0, 0, Nat.zero_le _, rfl, Lib.hid rfl, h0, Below.refl _ _⟩
  case round =>
    obtain ⟨k, z, hk, rfl, HZ, hJs, hnx⟩ := hrel
    have c0 := HC.out wr hnx
    have c1 := HN.out wr hnx
    by_cases hlt : k < chM len
    · obtain ⟨p1, p2, p3⟩ := chLen_pos hlt
      obtain rfl := hA (by omega)
      have hz := HZ.out
      have hkx : (z : Int) < (len : Int) := by omega
      obtain ⟨A', hcl, -, -⟩ := cut_lo (some ⟨b, o, none⟩) c (List.replicate len 0#8) z (by rw [List.length_replicate]; omega) (by rw [List.length_replicate]; omega)
      rw [List.length_replicate] at hcl
      obtain ⟨m, hm⟩ : ∃ m, m = chLen len k := ⟨_, rfl⟩
      have hcut3 := cut3 b o c len z m (by omega) (by omega) hc
      have hwm : IntKind.i64.wrap ((z : Int) + (m : Int)) = (z : Int) + (m : Int) := by rw [IntKind.wrap_i64]; omega
      have hw4 : IntKind.i64.wrap ((z : Int) + 4074) = (z : Int) + 4074 := by rw [IntKind.wrap_i64]; omega
      have hmin : min (4074 : Int) ((len - z : Nat) : Int) = (m : Int) := by rw [hm, hz]; unfold chLen; omega
      obtain ⟨lz, hlz⟩ : ∃ lz, lz = len - z := ⟨_, rfl⟩
      rw [← hlz] at hcl hmin
      have HJ := Lib.hid hJs
      have HM := Lib.hid hm
      have HNX := Lib.hid hnx
      have HLT := Lib.hid hlt
      clear hJs hnx hm hlz p1 p2 p3 hz
      gi_upto_region 3 with fail
      gi_cut [5] from 6 (fun s5 wx => s5 = .int .i64 m ∧ Hid (∃ q, wx = wr.drewN q))
      case first =>
        by_cases hle : (4074 : Int) ≤ (lz : Int)
        · have hm4 : (m : Int) = 4074 := by omega
          have HM4 := Lib.hid hm4
          clear hm4 hmin
          gi_quiet (fail)
          all_goals (gi_wp2; gi_meet)
          all_goals exact ⟨by rw [HM4.out], Lib.hid ⟨_, rfl⟩⟩
        · have hm4 : (m : Int) = (lz : Int) := by omega
          have HM4 := Lib.hid hm4
          clear hm4 hmin
          gi_quiet (fail)
          all_goals (gi_wp2; gi_meet)
          all_goals exact ⟨by rw [HM4.out], Lib.hid ⟨_, rfl⟩⟩
      case rest =>
        obtain ⟨rfl, HQ⟩ := hcut
        obtain ⟨qq, hqq⟩ := HQ.out
        obtain ⟨fn, tmps, assign, body, hy, hR⟩ := HY.out _ ⟨k, HLT.out⟩ wc (by rw [hqq]; exact HJD.out _ _ _ HJ.out) (by rw [chFs_len]; exact HLT.out)
        rw [show chItem b o len (⟨k, HLT.out⟩ : Fin (chM len)).1 = .slice (some ⟨b, o + z, none⟩) m m from by unfold chItem; rw [← HM.out, HZ.out]] at hy
        have HNX2 := Lib.hid (show Below n₀ W wc from by rw [hqq]; exact HNX.out.trans (below_drewN n₀ wr qq))
        have c0 := HC.out wc HNX2.out
        have c1 := HN.out wc HNX2.out
        clear hcl hmin hqq HQ hlt
        gi_wp2
        refine hR.mono ?_
        rintro e W3 (⟨rfl, hJ3, hk3⟩ | ⟨rfl, hJx3⟩)
        · have HJ3 := Lib.hid (show J (chFs (chM len) (k + 1) HLT.out) W3 from hJ3)
          have hn3 := HNX2.out.trans hk3
          have c3 := HN.out W3 hn3
          have HN3 := Lib.hid hn3
          clear hJ3 hk3 hy hR hn3 c0 c1
          gi_wp2
          go_roundw
          case rel => exact ⟨k + 1, z + 4074, HLT.out, by go_num, Lib.hid (by have := HZ.out; omega), HJ3.out, HN3.out⟩
          case measure => (show 4074 * chM len - ((z : Int) + 4074).toNat < 4074 * chM len - (z : Int).toNat; have := HZ.out; have := HLT.out; omega)
        · gi_wp2
          refine bodyPost_ret (results_none rfl _ _ _) rfl ?_
          exact ⟨⟨_, rfl⟩, .inr ⟨_, trivial, hJx3⟩⟩
    · have hz := HZ.out
      obtain rfl : k = chM len := by omega
      have hkx : ¬ (z : Int) < (len : Int) := by unfold chM at hz; omega
      clear hz
      gi_wp2
      go_end0
      exact ⟨⟨_, rfl⟩, .inl hJs⟩
end Go.Proofs.YtoidlmhebnlnbaaDoor
/- chain: bytes in pieces, collected (slices.AppendSeq, Collect, Chunk). -/
set_option linter.unusedVariables false
set_option linter.unusedSimpArgs false
namespace Go.Proofs.YtoidlmhebnlnbaaDoor
open Go.ChangeShapes Go.WideShapes Go.ChangeAt Go.RowKit Go.Shelf
attribute [local go_sem] Oper.semAt_some
set_option maxRecDepth 100000

theorem info_sl : (Tryd.prog.info? 27).map (fun i => (i.zero, i.size, i.bytes)) = some (some (.slice none 0 0), 1, 24) := by kernel_rfl
def chVs (b o len : Nat) (ys : List Nat) : List Value := ys.map (chItem b o len)
theorem chVs_snoc (b o len : Nat) (pre : List Nat) (x : Nat) : chVs b o len (pre ++ [x]) = chVs b o len pre ++ [chItem b o len x] := by simp [chVs]
theorem chVs_len (b o len : Nat) (ys : List Nat) : (chVs b o len ys).length = ys.length := by simp [chVs]
/-- The iterator's word. -/
theorem chunk_stops (n : Nat) (hn : 1 ≤ n) (A : Option Addr) (b o c len : Nat) (hA : 0 < len → A = some ⟨b, o, none⟩) (hl : len ≤ 1000000000) (hc : len ≤ c) (w0 : World) (Bs Bn : Nat) (hBs : w0.cell? ⟨Bs, 0, none⟩ = some (.slice A len c)) (hBn : w0.cell? ⟨Bn, 0, none⟩ = some (.int .i64 4074)) (w : World) (hf : FB w0 w) :
    SeqStopsK Fence.wide n Tryd.prog 42 #[.pointer (some ⟨Bs, 0, none⟩), .pointer (some ⟨Bn, 0, none⟩)] (fun x : Fin (chM len) => #[chItem b o len x.1]) (Below w0.heap.size) (fun ys => ys = chFs (chM len) (chM len) (Nat.le_refl _)) (fun pre => True) (chM len) w := fun l J Jx W hW hJ _ hY h0 =>
  chunk1_in n hn l w0.heap.size Bs Bn A b o c len hA hl hc J Jx hY W (fun W' hW' => FB.cell (show FB w0 W' from hf.out.trans ((hW.mono hf.le).trans hW')) hBs) (fun W' hW' => FB.cell (show FB w0 W' from hf.out.trans ((hW.mono hf.le).trans hW')) hBn)
    (fun pre W' n h => hJ _ _ _ none h (grown_drewN W' n) (fun r e => by cases e)) h0
set_option maxHeartbeats 2000000 in
theorem ch_AppendSeq (A : Option Addr) (b o c len : Nat) (hA : 0 < len → A = some ⟨b, o, none⟩) (hl : len ≤ 1000000000) (hcc : len ≤ c) (w : World) (Bs Bn : Nat) (hBs : w.cell? ⟨Bs, 0, none⟩ = some (.slice A len c)) (hBn : w.cell? ⟨Bn, 0, none⟩ = some (.int .i64 4074)) :
    Calls Tryd.prog 41 #[.slice none 0 0, .func (.func 42) #[] #[.pointer (some ⟨Bs, 0, none⟩), .pointer (some ⟨Bn, 0, none⟩)]] w fun e W' => ∃ v, e = .returned v ∧ W'.ownsRow w.heap.size 27 1 v (chM len) (chVs b o len (List.range (chM len))) ∧ FB w W' := by
  refine (callsIn_wide (n := 10)).1 ?_
  obtain ⟨i0, hi, hz0, hz1, hz2⟩ := info_parts info_sl
  refine callsIn_of_wp_marks Tryd.func41 rfl trivial ?_ rfl
  simp only [Tryd.ntmps41, List.size_toArray, List.length_cons, List.length_nil, Nat.reduceAdd, Nat.reduceSub, Array.replicate_succ, Array.replicate_zero, List.push_toArray, List.append_toArray, List.nil_append, List.cons_append]
  have bO := Boxed.new w 22 (.slice none 0 0)
  have hB0 : Below w.heap.size w (w.alloc (.cells #[.slice none 0 0] 22)) := (Below.refl _ w).alloc (Nat.le_refl _) _
  have HST := Lib.hid (chunk_stops (10 - 1) (by omega) A b o c len hA hl hcc w Bs Bn hBs hBn (w.alloc (.cells #[.slice none 0 0] 22)) ((FB.refl w).alloc _))
  have HFL := Lib.hid (show chM len ≤ len from by unfold chM; omega)
  clear hBs hBn
  gi_wp2
  refine wpIn_rangeFunc_ownG rfl (by omega) (gf := 42) (lb := #[.pointer (some ⟨Bs, 0, none⟩), .pointer (some ⟨Bn, 0, none⟩)]) rfl trivial (enters_of Tryd.func42 (by kernel_rfl) rfl)
    HST.out belowK_t (belowK_b (by simp)) (Below.refl _ _) (fun _ => rfl)
    (fun pre W => (∃ v, Boxed W w.heap.size 22 v ∧ W.ownsRow w.heap.size 27 1 v pre.length (chVs b o len (pre.map (·.1))) ∧ True) ∧ Below w.heap.size w W)
    (fun _ _ _ => False)
    (OwnFrom.and (Own.from (holdsRow_own w.heap.size w.heap.size 22 27 1 (fun pre : List (Fin (chM len)) => pre.length) (fun pre => chVs b o len (pre.map (·.1))) (fun pre v => True)) _) (ownFrom_below (Nat.le_refl _) (by simp)))
    (fun _ _ _ _ _ hs _ _ => hs)
    ⟨⟨_, bO, World.ownsRow_nil _ _ _ _, trivial⟩, hB0⟩
    (fun x => { tmps := #[.slice none 0 0, .func (.func 42) #[] #[.pointer (some ⟨Bs, 0, none⟩), .pointer (some ⟨Bn, 0, none⟩)], .pointer (some ⟨w.heap.size, 0, none⟩), undef, .slice none 0 0, chItem b o len x.1, .func (.func 42) #[] #[.pointer (some ⟨Bs, 0, none⟩), .pointer (some ⟨Bn, 0, none⟩)], chItem b o len x.1, undef, undef, undef, undef, undef], defers := [] }) ?assign ?body ?done ?stop
  case assign =>
    intro l x W K hK
    gi_wp2
    exact hK
  case body =>
    rintro l pre x W ⟨⟨v, hv, hrow, -⟩, hB⟩ hlt
    have hc := hv.cell
    have hpl : pre.length < 1000000000 := by have := HFL.out; omega
    have hpl2 := chVs_len b o len (pre.map (·.1))
    unfold chItem
    gi_wp2_with (gi_at_builtin; refine wpListIn_append_own _ rfl _ _ 22 rfl w.heap.size 27 i0 (.slice none 0 0) 1 24 Tryd.underlying22 hi hz0 hz1 hz2 rfl (by decide) _ _ _ rfl (hrow.alloc _) ⟨W.heap.size, 0, none⟩ 1 1 [chItem b o len x.1] rfl rfl (cell_one_new _ _ _) (by simp [chItem, Value.oneCell']) (by simp [maxLen]; omega) (by omega) (by have := hB.size; simp; omega) ?_; intro v' w1 hown' hgrow _; obtain ⟨g', cap', rfl⟩ := ownsRow_succ hown'; obtain ⟨hv1, hv2, hr2, hk2, hb2⟩ := hv.appended (by decide) hrow hB.size (Nat.le_refl _) hown' hgrow; have hc1 := hv1.cell; have hf1 := hv1.frozen)
    exact ⟨hk2.from _, hb2, ⟨_, hv2, by rw [List.map_append, List.map_cons, List.map_nil, chVs_snoc]; simpa using hr2, trivial⟩, hB.trans hb2⟩
  case done =>
    rintro D ys W hD rfl ⟨⟨v, hv, hrow, -⟩, hB⟩ hK
    have hc := hv.cell
    gi_wp2
    refine ⟨by simp, .inl ⟨_, _, rfl, run_takeDeferred hK, ?_⟩⟩
    exact ⟨_, results_tmp rfl _ _ _, v, rfl, by rw [chFs_len, chFs_val] at hrow; exact ownsRow_putObj hrow _ hK rfl, hB.trans (belowK_b (w := w) (Nat.le_refl _) W D _ _ (by simp at hD; omega) hK rfl rfl)⟩
  case stop =>
    rintro D c pre W _ _ h _
    exact h.elim
/-- The pieces of bytes: slices into them. -/
def chPieces (A : Option Addr) (len : Nat) : List Value := match A with | some ⟨b, o, _⟩ => chVs b o len (List.range (chM len)) | none => []
set_option maxHeartbeats 400000 in
theorem ch_Chunk (A : Option Addr) (n c : Nat) (w : World) : Calls Tryd.prog 23 #[.slice A n c, .int .i64 4074] w fun e w' => e = .returned (.func (.func 42) #[] #[.pointer (some ⟨w.heap.size, 0, none⟩), .pointer (some ⟨w.heap.size + 1, 0, none⟩)]) ∧ w' = (w.alloc (.cells #[.slice A n c] 27)).alloc (.cells #[.int .i64 4074] 3) := by
  have hmf : ∀ (fn : Fn) (first cap : Array Value) (w : World), (Instr.makeFunc fn first cap).run Tryd.prog w = .ok (.func fn first cap) w := fun _ _ _ _ => rfl
  go_enter Tryd.func23, Tryd.ntmps23
  go_wp2
  go_ret
  exact ⟨rfl, rfl⟩
set_option maxHeartbeats 400000 in
theorem ch_Collect (A : Option Addr) (b o c len : Nat) (hA : 0 < len → A = some ⟨b, o, none⟩) (hl : len ≤ 1000000000) (hcc : len ≤ c) (w : World) (Bs Bn : Nat) (hBs : w.cell? ⟨Bs, 0, none⟩ = some (.slice A len c)) (hBn : w.cell? ⟨Bn, 0, none⟩ = some (.int .i64 4074)) :
    Calls Tryd.prog 22 #[.func (.func 42) #[] #[.pointer (some ⟨Bs, 0, none⟩), .pointer (some ⟨Bn, 0, none⟩)]] w fun e W' => ∃ A' c', e = .returned (.slice A' (chM len) c') ∧ RdV W' A' (chVs b o len (List.range (chM len))) ∧ FB w W' := by
  have HA := Lib.hid (ch_AppendSeq A b o c len hA hl hcc w Bs Bn hBs hBn)
  clear hBs hBn
  go_enter Tryd.func22, Tryd.ntmps22
  go_wp2_with fail
  refine HA.out.mono ?_
  rintro e w1 ⟨v, rfl, hrow, hf⟩
  have ho : OwnV 27 w1 w.heap.size v (chVs b o len (List.range (chM len))) := by unfold OwnV; rw [chVs_len, List.length_range]; exact hrow
  obtain ⟨A', c', rfl, -, -, h3, -⟩ := OwnV.form ho
  have H3 := Lib.hid h3
  have HF := Lib.hid hf
  clear hrow ho h3 hf
  rw [chVs_len, List.length_range]
  go_wp2
  go_ret
  exact ⟨A', c', rfl, H3.out, HF.out⟩
end Go.Proofs.YtoidlmhebnlnbaaDoor
/- chain, plain: the pages of bytes. -/
set_option linter.unusedVariables false
set_option linter.unusedSimpArgs false
namespace Go.Proofs.YtoidlmhebnlnbaaDoor
open Go.ChangeShapes Go.WideShapes Go.ChangeAt Go.RowKit

/-- How many pages; what the i-th one has. -/
def chN (b : List Byte) : Nat := (max 1 b.length - 1) / 4074 + 1
def chPart (b : List Byte) (i : Nat) : List Byte := (b.drop (4074 * i)).take 4074
def chNext (ps : List Int) (i : Nat) : Int := if i + 1 < ps.length then ps.getD (i + 1) 0 else 0
def chBody (ps : List Int) (b : List Byte) (i : Nat) : List Byte := oword 4 (BitVec.ofInt 64 (chNext ps i)) ++ oword 2 (BitVec.ofNat 64 (chPart b i).length) ++ chPart b i
def chPage (kind : Int) (ps : List Int) (b : List Byte) (i : Nat) : List Byte := pgBytes (BitVec.ofInt 8 kind) (BitVec.ofNat 32 i) (chBody ps b i)
/-- The first j pages may be: none twice. -/
def chVal (ps : List Int) (j : Nat) : Prop := ∀ i, i < j → 2 ≤ ps.getD i 0 ∧ ps.getD i 0 ≤ 4294967295 ∧ ps.getD i 0 ∉ ps.take i
instance (ps : List Int) (j : Nat) : Decidable (chVal ps j) := by unfold chVal; exact inferInstance
def chOk (kind : Int) (ps : List Int) (b : List Byte) : Prop := chIs kind = true ∧ ps.length = chN b ∧ chVal ps ps.length
instance (kind : Int) (ps : List Int) (b : List Byte) : Decidable (chOk kind ps b) := by unfold chOk; exact inferInstance
def chPages (kind : Int) (ps : List Int) (b : List Byte) : List (List Byte) × Int := if chOk kind ps b then ((List.range (chN b)).map (chPage kind ps b), 0) else ([], 2)
theorem chN_need (b : List Byte) : chNeed (b.length : Int) = (chN b : Int) := chNeed_nat _
theorem chN_M (b : List Byte) : chN b = if b.length = 0 then 1 else chM b.length := by
  unfold chN chM
  split <;> omega
theorem chPart_len (b : List Byte) (i : Nat) (h : i < chM b.length) : (chPart b i).length = chLen b.length i := by
  unfold chPart chLen; rw [List.length_take, List.length_drop]
theorem chPart_le (b : List Byte) (i : Nat) : (chPart b i).length ≤ 4074 := by unfold chPart; rw [List.length_take]; omega
theorem chBody_len (ps : List Int) (b : List Byte) (i : Nat) : (chBody ps b i).length = 6 + (chPart b i).length := by
  unfold chBody; simp only [List.length_append, oword_len]
theorem chVal_step {ps : List Int} {j : Nat} (h : chVal ps j) (h1 : 2 ≤ ps.getD j 0) (h2 : ps.getD j 0 ≤ 4294967295) (h3 : ps.getD j 0 ∉ ps.take j) : chVal ps (j + 1) := by
  intro i hi
  by_cases e : i = j
  · subst e; exact ⟨h1, h2, h3⟩
  · exact h i (by omega)
theorem chPage_len (kind : Int) (ps : List Int) (b : List Byte) (i : Nat) : (chPage kind ps b i).length = 4096 := pgBytes_len _ _ (by rw [chBody_len]; have := chPart_le b i; omega)
/-- The map of the pages seen. -/
def chMp (l : List Int) : List (Int × Value) := l.map fun x => (x, .int .i64 1)
theorem chMp_get (l : List Int) (x : Int) : mget (chMp l) x = if x ∈ l then some (.int .i64 1) else none := by
  induction l with
  | nil => rfl
  | cons y l ih =>
    show (if y = x then _ else mget (chMp l) x) = _
    by_cases e : y = x
    · subst e; simp
    · rw [if_neg e, ih]; simp [show x ≠ y from fun h => e h.symm]
theorem chMp_put (l : List Int) (x : Int) (h : x ∉ l) : mput (chMp l) x (.int .i64 1) = chMp (l ++ [x]) := by
  induction l with
  | nil => rfl
  | cons y l ih =>
    simp only [List.mem_cons, not_or] at h
    show (if y = x then _ else (y, Value.int .i64 1) :: mput (chMp l) x (.int .i64 1)) = _
    rw [if_neg (fun e => h.1 e.symm), ih h.2]; rfl
end Go.Proofs.YtoidlmhebnlnbaaDoor
/- A region whose order is open and whose last operation, behind all others, is a store into what the others read. -/
set_option linter.unusedVariables false
set_option linter.unusedSimpArgs false
namespace Go.Proofs.YtoidlmhebnlnbaaDoor

section
variable {P : Program} {ops : Array Oper} {Q : Exit → Act → World → Prop} {md : Region.Mode} {E : World → World → Prop} {s : Nat}

/-- Behind the others the operation s. -/
def withLast (P : Program) (ops : Array Oper) (Q : Exit → Act → World → Prop) (s : Nat) : Exit → Act → World → Prop
  | .normal, a, w => wpOp P ops Q s (fun a' w' => Q .normal a' w') a w
  | e, a, w => Q e a w

theorem Oper.wp_withLast {o : Oper} {a : Act} {w : World} {K : Act → World → Prop} (h : o.wp P a w K (withLast P ops Q s)) : o.wp P a w K Q := by
  unfold Oper.wp at *
  generalize (execOp a.eval o).run P w = r at *
  cases r with
  | ok n w' => cases n <;> exact h
  | halt x w' => cases x <;> exact h
theorem wpOp_withLast {i : Nat} {a : Act} {w : World} {K : Act → World → Prop} (h : wpOp P ops (withLast P ops Q s) i K a w) : wpOp P ops Q i K a w := by
  unfold wpOp at *
  split
  · simpa [*] using h
  · rename_i o ho
    simp only [ho] at h
    split
    · rename_i hw
      rw [if_pos hw] at h
      exact h.imp Oper.wp_withLast id
    · rename_i hw
      rw [if_neg hw] at h
      exact h

def anyS (P : Program) (md : Region.Mode) (ops : Array Oper) (Q : Exit → Act → World → Prop) (E : World → World → Prop) (s : Nat) : Nat → Array Bool → Act → World → Prop
  | 0, listed, a, w => Region.ready md ops listed = [] ∧ Q .normal a w
  | fuel + 1, listed, a, w =>
    (Region.ready md ops listed = [] → Q .normal a w) ∧
    ∀ i ∈ Region.ready md ops listed, wpOp P ops Q i (fun a' w' => (i ≠ s → E w w') ∧ anyS P md ops Q E s fuel (listed.setIfInBounds i true) a' w') a w
theorem wpAny_of_anyS : ∀ (fuel : Nat) (listed : Array Bool) (a : Act) (w : World), anyS P md ops Q E s fuel listed a w → wpAny P md ops Q fuel listed a w
  | 0, _, _, _, h => h
  | fuel + 1, _, _, _, h => ⟨h.1, fun i hi => wpOp_mono (fun a' w' h' => wpAny_of_anyS fuel _ a' w' h'.2) (h.2 i hi)⟩

/-- Does s stand behind i? -/
def behind (md : Region.Mode) (ops : Array Oper) (s i : Nat) : Bool := match ops[s]? with | some o => o.after.toList.any fun e => Region.binds md e && e.on == i | none => false
theorem behind_spec {i : Nat} (h : behind md ops s i = true) {o : Oper} (ho : ops[s]? = some o) : ∃ e ∈ o.after, Region.binds md e = true ∧ e.on = i := by
  unfold behind at h
  rw [ho] at h
  simp only [List.any_eq_true, Bool.and_eq_true, beq_iff_eq] at h
  obtain ⟨e, he, h1, h2⟩ := h
  exact ⟨e, by simpa using he, h1, h2⟩

theorem anyS_first {i : Nat} {oi : Oper} {v : Value} (hrf : ∀ w, E w w) (htr : ∀ x y z, E x y → E y z → E x z) (hi : ops[i]? = some oi) (hsel : ∀ (j : Nat) (o : Oper) cs b, ops[j]? = some o → o.op ≠ .select cs b)
    (hQ : ∀ c a w, Q (.panic c) (a.put oi.dst v) w → Q (.panic c) a w) (hbe : behind md ops s i = true) :
    ∀ (fuel : Nat) (listed : Array Bool) (a : Act) (w : World),
      (∀ j oj, ops[j]? = some oj → j ≠ i → listed.getD j true = false → (∀ e ∈ oj.after, Region.binds md e = true → e.on ≠ i) → oi.apart ops oj = true) →
      i ∈ Region.ready md ops listed → YieldsIf P ops (E w) oi v a →
      anyS P md ops Q E s fuel (listed.setIfInBounds i true) (a.put oi.dst v) w → anyS P md ops Q E s (fuel + 1) listed a w := by
  intro fuel
  induction fuel with
  | zero =>
    intro listed a w _ hr hy H
    refine ⟨fun h => (by rw [h] at hr; cases hr), fun j hj => ?_⟩
    by_cases hji : j = i
    · subst hji; exact hy.wpOp hi (hrf w) ⟨fun _ => hrf w, H⟩
    · have := ready_mono hj hji
      rw [H.1] at this
      cases this
  | succ fuel ih =>
    intro listed a w hfree hr hy H
    refine ⟨fun h => (by rw [h] at hr; cases hr), fun j hj => ?_⟩
    by_cases hji : j = i
    · subst hji; exact hy.wpOp hi (hrf w) ⟨fun _ => hrf w, H⟩
    · have h1 := H.2 j (ready_mono hj hji)
      obtain ⟨hjun, oj, hoj, hall⟩ := mem_ready.1 hj
      have hnot : ∀ e ∈ oj.after, Region.binds md e = true → e.on ≠ i := fun e he hb heq => by
        have h1 := hall e he hb
        have h0 := (mem_ready.1 hr).1
        rw [heq] at h1
        rcases Nat.lt_or_ge i listed.size with h' | h'
        · simp [h'] at h0 h1; rw [h0] at h1; cases h1
        · simp [Array.getElem?_eq_none h'] at h1
      have hjs : j ≠ s := fun e => by
        subst e
        obtain ⟨x, hx1, hx2, hx3⟩ := behind_spec hbe hoj
        exact hnot x hx1 hx2 hx3
      have h2 := wpOp_putIf hoj (hfree j oj hoj hji hjun hnot) (fun cs b => hsel i oi cs b hi) (fun cs b => hsel j oj cs b hoj) hQ hy h1
      have hfree' : ∀ k ok, ops[k]? = some ok → k ≠ i → (listed.setIfInBounds j true).getD k true = false →
          (∀ e ∈ ok.after, Region.binds md e = true → e.on ≠ i) → oi.apart ops ok = true := fun k ok hk hki hun hno => by
        refine hfree k ok hk hki ?_ hno
        by_cases hjk : j = k
        · subst hjk; exact hjun
        · rw [getD_set_ne true hjk] at hun; exact hun
      refine wpOp_mono (fun a' w' h3 => ⟨fun _ => h3.2.1 hjs, ih (listed.setIfInBounds j true) a' w' hfree' (ready_mono hr (Ne.symm hji)) (yieldsE_mono h3.1 fun W hW => htr _ _ _ (h3.2.1 hjs) hW) ?_⟩) h2
      rw [Array.setIfInBounds_comm _ _ hji]
      exact h3.2.2

def okL (md : Region.Mode) (ops : Array Oper) (s : Nat) : List (Nat × Bool) → Array Bool → Bool
  | [], listed => Region.ready md ops listed == [s] && Region.ready md ops (listed.setIfInBounds s true) == []
  | (i, b) :: σ, listed => (if b then (Region.ready md ops listed).contains i && Region.free md ops listed i && behind md ops s i else Region.ready md ops listed == [i] && i != s) && okL md ops s σ (listed.setIfInBounds i true)

theorem anyS_of_sch (hrf : ∀ w, E w w) (htr : ∀ x y z, E x y → E y z → E x z) (hs : Region.noSelect ops = true) (hQ : ∀ c a d v w, Q (.panic c) (Act.put a d v) w → Q (.panic c) a w) :
    ∀ (σ : List (Nat × Bool)) (listed : Array Bool) (a : Act) (w : World), okL md ops s σ listed = true → wpSch P ops (withLast P ops Q s) E σ a w → anyS P md ops Q E s (σ.length + 1) listed a w := by
  intro σ
  induction σ with
  | nil =>
    intro listed a w hok h
    simp only [okL, Bool.and_eq_true, beq_iff_eq] at hok
    refine ⟨fun h0 => (by rw [h0] at hok; cases hok.1), fun j hj => ?_⟩
    rw [hok.1, List.mem_singleton] at hj
    subst hj
    exact wpOp_mono (fun a' w' h' => ⟨fun hne => absurd rfl hne, hok.2, h'⟩) h
  | cons x σ ih =>
    obtain ⟨i, b⟩ := x
    intro listed a w hok h
    simp only [okL, Bool.and_eq_true] at hok
    obtain ⟨hok1, hok2⟩ := hok
    cases b with
    | true =>
      simp only [if_true, Bool.and_eq_true] at hok1
      simp only [wpSch, if_true] at h
      obtain ⟨o, v, hi, hy, h⟩ := h
      exact anyS_first hrf htr hi (Region.noSelect_spec hs) (fun c a w => hQ c a _ _ w) hok1.2 (σ.length + 1) listed a w (Region.free_spec hi hok1.1.2) (by simpa using hok1.1.1) hy (ih _ _ _ hok2 h)
    | false =>
      simp only [Bool.false_eq_true, if_false, Bool.and_eq_true, beq_iff_eq] at hok1
      have hr : Region.ready md ops listed = [i] := hok1.1
      simp only [wpSch, Bool.false_eq_true, if_false] at h
      refine ⟨fun h0 => (by rw [h0] at hr; cases hr), fun j hj => ?_⟩
      rw [hr, List.mem_singleton] at hj
      subst hj
      exact wpOp_mono (fun a' w' h' => ⟨fun _ => h'.1, ih _ _ _ hok2 h'.2⟩) (wpOp_withLast h)

/-- THE BEGINNING: the region, by the order σ, and s last. -/
theorem region_schL {id : Nat} {a : Act} {w : World} (s : Nat) (σ : List (Nat × Bool)) (hm : P.follows .mixedOrders = true) (hrf : ∀ w, E w w) (htr : ∀ x y z, E x y → E y z → E x z)
    (hQ : ∀ c a d v w, Q (.panic c) (Act.put a d v) w → Q (.panic c) a w) (hok : (Region.noSelect ops && σ.length + 1 == ops.size && okL .any ops s σ (Array.replicate ops.size false)) = true)
    (h : ∀ ops', ops' = ops → wpSch P ops' (withLast P ops' Q s) E σ a w.drew) : (Code.region id ops true).wp P Q a w := by
  replace h := h ops rfl
  simp only [Bool.and_eq_true, beq_iff_eq] at hok
  obtain ⟨⟨h1, h2⟩, h3⟩ := hok
  refine wp_region_any hm (wpAny_of_anyS (E := E) (s := s) _ _ _ _ ?_)
  rw [← h2] at h3 ⊢
  exact anyS_of_sch hrf htr h1 hQ σ _ _ _ h3 h
/-- The last operation, where it is a store. -/
theorem schL_store {o : Oper} {a : Act} {w w' : World} (hi : ops[s]? = some o) (hw : Region.wanted o (yielded ops a.tmps) = true) (ty : TypeId) (x y : Operand) (ho : o.op = .store ty x y)
    (vx vy : Value) (hx : a.eval x = vx) (hy : a.eval y = vy) (hr : (Instr.storeAt ty vx vy).run P w = .ok () w') (h : Q .normal (a.put o.dst undef) w') : wpSch P ops (withLast P ops Q s) E [] a w := by
  show wpOp P ops Q s (fun a' w' => Q .normal a' w') a w
  unfold wpOp
  simp only [hi, hw, if_true]
  refine .inl ?_
  unfold Oper.wp execOp
  subst hx hy
  simp only [ho, Sem.run_bind, Sem.run_pure, Result.andThen_ok, hr]
  exact h
end
end Go.Proofs.YtoidlmhebnlnbaaDoor
