/- Walks and laws that the claim's last text stands on, several texts in one file: DskQ, Mpr, DskR, PgO, RtJ, RtK, RtQ. Under the hypotheses that each theorem states. -/
import Derived.Maps.RangeWalk
import Derived.Laws.StructEq
import Derived.Test.YtihljjfnjclefaaMRta
import Derived.Test.YtihljjfnjclefaaMRtb
import Derived.Test.YtihljjfnjclefaaMRtc
import Derived.Test.YtihljjfnjclefaaMRtd
import Derived.Test.YtihljjfnjclefaaMRte
import Derived.Test.YtihljjfnjclefaaMRtf
import Derived.Test.YtihljjfnjclefaaMRtg
import Derived.Test.YtihljjfnjclefaaMRth
import Derived.Test.YtihljjfnjclefaaMRti
import Derived.Test.YtihljjfnjclefaaMRtj
/- Sectors of bytes, plain: what a crash, a flush leave. -/
set_option linter.unusedVariables false
set_option linter.unusedSimpArgs false
namespace Go.Proofs.Ytihljjfnjclefaa
open Go.ChangeShapes Go.WideShapes Go.ChangeAt Go.RowKit Go.MapKept

theorem sec_ext {b b' : List Byte} {n : Nat} (h : b.length = 512 * n) (h' : b'.length = 512 * n) (hs : ∀ k, k < n → sec b k = sec b' k) : b = b' := by
  apply List.ext_getElem?
  intro i
  by_cases hi : i < 512 * n
  · have hk : i / 512 < n := by omega
    have := congrArg (·[i % 512]?) (hs (i / 512) hk)
    simp only [sec_get] at this
    rw [if_pos (by omega), if_pos (by omega), show 512 * (i / 512) + i % 512 = i by omega] at this
    exact this
  · rw [List.getElem?_eq_none (by omega), List.getElem?_eq_none (by omega)]
theorem cget_none_at {M : List (Int × List Byte)} {k : Int} (h : cget M k = none) : ∀ (i : Nat) (p : Int × List Byte), M[i]? = some p → p.1 ≠ k := by
  induction M with
  | nil => intro i p hp; simp at hp
  | cons q M ih =>
    obtain ⟨qk, qv⟩ := q
    rw [cget] at h
    by_cases h0 : qk = k
    · rw [if_pos h0] at h; cases h
    · rw [if_neg h0] at h
      intro i p hp
      cases i with
      | zero => simp only [List.getElem?_cons_zero, Option.some.injEq] at hp; subst hp; exact h0
      | succ i => simp only [List.getElem?_cons_succ] at hp; exact ih h i p hp
theorem cget_some_at {M : List (Int × List Byte)} {k : Int} {x : List Byte} (h : cget M k = some x) : ∃ i : Nat, i < M.length ∧ M[i]? = some (k, x) := by
  induction M with
  | nil => cases h
  | cons q M ih =>
    obtain ⟨qk, qv⟩ := q
    rw [cget] at h
    by_cases h0 : qk = k
    · rw [if_pos h0] at h
      simp only [Option.some.injEq] at h
      subst h h0
      exact ⟨0, by simp, rfl⟩
    · rw [if_neg h0] at h
      obtain ⟨i, h1, h2⟩ := ih h
      exact ⟨i + 1, by simpa using h1, by simpa using h2⟩
theorem sec_crashB {f : Nat → Nat} {M : List (Int × List Byte)} {b : List Byte} {n k : Nat} (hb : b.length = 512 * n) (hM : ∀ p ∈ M, 0 ≤ p.1 ∧ p.1 < n ∧ p.2.length = 512) (hn : (M.map (·.1)).Nodup) (hf : ∀ i, f i ≤ 512) : ∀ j,
    (∀ (i : Nat) x, i < j → M[i]? = some ((k : Int), x) → sec (crashB f M b j) k = x.take (f i) ++ (sec b k).drop (f i)) ∧ ((∀ (i : Nat) (p : Int × List Byte), i < j → M[i]? = some p → p.1 ≠ k) → sec (crashB f M b j) k = sec b k)
  | 0 => ⟨fun i x hi => absurd hi (by omega), fun _ => rfl⟩
  | j + 1 => by
    have ih := sec_crashB (k := k) hb hM hn hf j
    have hlen := crashB_len (f := f) hb hM j
    have huniq : ∀ (i i' : Nat) (p q : Int × List Byte), M[i]? = some p → M[i']? = some q → p.1 = q.1 → i = i' := fun i i' p q h1 h2 h3 => by
      have g1 : (M.map (·.1))[i]? = some p.1 := by rw [List.getElem?_map, h1]; rfl
      have g2 : (M.map (·.1))[i']? = some p.1 := by rw [List.getElem?_map, h2, h3]; rfl
      have hi := (List.getElem?_eq_some_iff.1 g1).1
      have hi' := (List.getElem?_eq_some_iff.1 g2).1
      rw [List.getElem?_eq_getElem hi] at g1
      rw [List.getElem?_eq_getElem hi'] at g2
      exact (List.getElem_inj hn).1 (by simp only [Option.some.injEq] at g1 g2; rw [g1, g2])
    cases hj : M[j]? with
    | none =>
      have hc : crashB f M b (j + 1) = crashB f M b j := by rw [crashB, hj]
      rw [hc]
      refine ⟨fun i x hi hx => ?_, fun h => ih.2 (fun i p hi => h i p (by omega))⟩
      have : i ≠ j := fun e => by subst e; rw [hj] at hx; cases hx
      exact ih.1 i x (by omega) hx
    | some p =>
      have hp := hM p (List.mem_of_getElem? hj)
      have hc : crashB f M b (j + 1) = splice (crashB f M b j) (512 * p.1.toNat) (p.2.take (f j)) := by rw [crashB, hj]
      rw [hc]
      by_cases hk : p.1 = (k : Int)
      · have hkk : p.1.toNat = k := by omega
        have hno : ∀ (i : Nat) (q : Int × List Byte), i < j → M[i]? = some q → q.1 ≠ k := fun i q hi hq e => by
          have := huniq i j q p hq hj (by rw [e, hk])
          omega
        have hs := sec_splice_same (k := k) (x := p.2.take (f j)) hlen (by omega) (by rw [List.length_take]; omega)
        rw [ih.2 hno, show (p.2.take (f j)).length = f j from by rw [List.length_take, hp.2.2]; have := hf j; omega] at hs
        rw [hkk]
        refine ⟨fun i x hi hx => ?_, fun h => absurd hk (h j p (by omega) hj)⟩
        have hij := huniq i j _ p hx hj hk.symm
        subst hij
        rw [hj] at hx
        simp only [Option.some.injEq] at hx
        rw [hs, hx]
      · have hkk : k ≠ p.1.toNat := by omega
        rw [sec_splice_other hlen (by omega) (by rw [List.length_take]; omega) hkk]
        refine ⟨fun i x hi hx => ?_, fun h => ih.2 (fun i q hi => h i q (by omega))⟩
        have : i ≠ j := fun e => by
          subst e
          rw [hj] at hx
          simp only [Option.some.injEq] at hx
          rw [hx] at hk
          exact hk rfl
        exact ih.1 i x (by omega) hx
/-- The bytes behind a flush. -/
def flushB (M : List (Int × List Byte)) (b : List Byte) : List Byte := crashB (fun _ => 512) M b M.length
theorem flushB_len {M : List (Int × List Byte)} {b : List Byte} {n : Nat} (hb : b.length = 512 * n) (hM : ∀ p ∈ M, 0 ≤ p.1 ∧ p.1 < n ∧ p.2.length = 512) : (flushB M b).length = 512 * n := crashB_len hb hM _
theorem sec_flushB {M : List (Int × List Byte)} {b : List Byte} {n k : Nat} (hb : b.length = 512 * n) (hk : k < n) (hM : ∀ p ∈ M, 0 ≤ p.1 ∧ p.1 < n ∧ p.2.length = 512) (hn : (M.map (·.1)).Nodup) : sec (flushB M b) k = (cget M k).getD (sec b k) := by
  have h := sec_crashB (f := fun _ => 512) (k := k) hb hM hn (fun _ => Nat.le_refl _) M.length
  unfold flushB
  cases hc : cget M (k : Int) with
  | none => exact h.2 (fun i p _ hp => cget_none_at hc i p hp)
  | some x =>
    obtain ⟨i, hi, hx⟩ := cget_some_at hc
    have hl := (hM _ (List.mem_of_getElem? hx)).2.2
    rw [h.1 i x hi hx]
    simp only at hl
    rw [List.take_of_length_le (by omega), List.drop_of_length_le (by rw [sec_len hb hk]; omega), List.append_nil]; rfl
theorem flushB_of {M : List (Int × List Byte)} {b b' : List Byte} {n : Nat} (hb : b.length = 512 * n) (hb' : b'.length = 512 * n) (hM : ∀ p ∈ M, 0 ≤ p.1 ∧ p.1 < n ∧ p.2.length = 512) (hn : (M.map (·.1)).Nodup) (h : ∀ k, k < n → sec b' k = (cget M k).getD (sec b k)) : b' = flushB M b :=
  sec_ext hb' (flushB_len hb hM) (fun k hk => by rw [h k hk, sec_flushB hb hk hM hn])
end Go.Proofs.Ytihljjfnjclefaa
/- A loop over a map whose keys are ints. -/
set_option linter.unusedVariables false
set_option linter.unusedSimpArgs false
namespace Go.Proofs.Ytihljjfnjclefaa
open Go.ChangeShapes Go.WideShapes Go.ChangeAt Go.RowKit Go.MapKept

theorem map_inj_of_nodup {α β : Type} {f : α → β} : ∀ {l : List α}, (l.map f).Nodup → ∀ {x y}, x ∈ l → y ∈ l → f x = f y → x = y
  | [], _, _, _, hx, _, _ => by cases hx
  | a :: l, hn, x, y, hx, hy, he => by
    rw [List.map_cons, List.nodup_cons] at hn
    rcases List.mem_cons.1 hx with rfl | hx'
    · rcases List.mem_cons.1 hy with rfl | hy'
      · rfl
      · exact absurd (he ▸ List.mem_map.2 ⟨y, hy', rfl⟩) hn.1
    · rcases List.mem_cons.1 hy with rfl | hy'
      · exact absurd (he ▸ List.mem_map.2 ⟨x, hx', rfl⟩) hn.1
      · exact map_inj_of_nodup hn.2 hx' hy' he
/-- Block r goes over the map in block m; `left`: who is still to come. -/
def MapIt (w : World) (m r : Nat) (V : List (Int × Value)) (left : Int → Prop) (cnt : Nat) : Prop :=
  ∃ es clock seen c0, w.heap[m]? = some (.map es clock) ∧ es.toList.map (fun e => (e.key, e.val)) = V.map (fun p => (Value.int .i64 p.1, p.2)) ∧ (∀ e ∈ es.toList, e.born < clock) ∧ (es.toList.map (·.born)).Nodup ∧ (V.map (·.1)).Nodup ∧
    w.heap[r]? = some (.mapIter (some m) clock seen c0) ∧ clock ≤ c0 ∧ (leftOf es seen).size = cnt ∧ ∀ e ∈ es.toList, ∀ k, e.key = .int .i64 k → (left k ↔ seen.contains e.born = false)
theorem MapIt.lt {w : World} {m r : Nat} {V : List (Int × Value)} {left : Int → Prop} {cnt : Nat} (h : MapIt w m r V left cnt) : m < w.heap.size ∧ r < w.heap.size ∧ r ≠ m := by
  obtain ⟨es, clock, seen, c0, h1, -, -, -, -, h2, -⟩ := h
  exact ⟨(Array.getElem?_eq_some_iff.1 h1).1, (Array.getElem?_eq_some_iff.1 h2).1, fun e => by subst e; rw [h1] at h2; cases h2⟩
theorem MapIt.move {w w' : World} {m r : Nat} {V : List (Int × Value)} {left : Int → Prop} {cnt : Nat} (h : MapIt w m r V left cnt) (hm : w'.heap[m]? = w.heap[m]?) (hr : w'.heap[r]? = w.heap[r]?) : MapIt w' m r V left cnt := by
  obtain ⟨es, clock, seen, c0, h1, h2, h3, h4, h5, h6, h7⟩ := h
  exact ⟨es, clock, seen, c0, hm.trans h1, h2, h3, h4, h5, hr.trans h6, h7⟩
theorem MapIt.map {w : World} {m r : Nat} {V : List (Int × Value)} {left : Int → Prop} {cnt : Nat} (h : MapIt w m r V left cnt) : MapAt w m V := by
  obtain ⟨es, clock, seen, c0, h1, h2, h3, h4, h5, h6, h7⟩ := h
  exact ⟨es, clock, h1, h2, h3, h4, h5⟩
/-- How many are left, read off the world. -/
theorem MapIt.left_eq {w : World} {m r : Nat} {V : List (Int × Value)} {left : Int → Prop} {cnt : Nat} (h : MapIt w m r V left cnt) : w.rangeLeft m r = cnt := by
  obtain ⟨es, clock, seen, c0, h1, h2, h3, h4, h5, h6, h7, h8, h9⟩ := h
  simp only [World.rangeLeft, h1, h6]; exact h8
section
variable {P : Program} {t k e : TypeId} (ht : P.underlying t = some (.map k e))
include ht
theorem map_range {w : World} {m : Nat} {V : List (Int × Value)} (h : MapAt w m V) :
    ∃ w', (Instr.range t (.map (some m))).run P w = .ok (.pointer (some ⟨w.heap.size, 0, none⟩)) w' ∧ (∃ cnt, MapIt w' m w.heap.size V (fun _ => True) cnt) ∧ FB w w' := by
  have hlt := h.lt
  obtain ⟨es, clock, h1, h2, h3, h4, h5⟩ := h
  refine ⟨_, run_range_map w t k e m es clock ht h1, ⟨_, es, clock, #[], clock, ?_, h2, h3, h4, h5, heap_alloc_new _ _, Nat.le_refl _, rfl, fun e he k hk => by simp⟩, (FB.refl w).alloc _⟩
  rw [((FB.refl w).alloc (.mapIter (some m) clock #[] clock)).block m hlt]; exact h1
end
theorem map_next {P : Program} {w : World} {m r : Nat} {V : List (Int × Value)} {left : Int → Prop} {cnt : Nat} (h : MapIt w m r V left cnt) :
    (cnt = 0 ∧ (∀ p ∈ V, ¬ left p.1) ∧ ∀ ty, (Instr.next (.pointer (some ⟨r, 0, none⟩)) false ty).run P w = .ok (.tuple #[.bool false]) w) ∨
    ∃ k v w' cnt', (k, v) ∈ V ∧ left k ∧ (∀ ty, (Instr.next (.pointer (some ⟨r, 0, none⟩)) false ty).run P w = .ok (.tuple #[.bool true, .int .i64 k, v]) w') ∧
      MapIt w' m r V (fun x => left x ∧ x ≠ k) cnt' ∧ cnt' < cnt ∧ TB r w w' ∧ (Instr.entry (.pointer (some ⟨r, 0, none⟩))).run P w' = .ok (.tuple #[.int .i64 k, v]) w' := by
  have hne := h.lt.2.2
  obtain ⟨es, clock, seen, c0, h1, h2, h3, h4, h5, h6, h7, h8, h9⟩ := h
  have hsome : ∀ p ∈ V, ∃ x ∈ es.toList, x.key = .int .i64 p.1 ∧ x.val = p.2 := fun p hp => by
    have : (Value.int .i64 p.1, p.2) ∈ es.toList.map (fun e => (e.key, e.val)) := by rw [h2]; exact List.mem_map.2 ⟨p, hp, rfl⟩
    obtain ⟨x, hx, hx2⟩ := List.mem_map.1 this
    simp only [Prod.mk.injEq] at hx2
    exact ⟨x, hx, hx2.1, hx2.2⟩
  have hback : ∀ x ∈ es.toList, ∃ p ∈ V, x.key = .int .i64 p.1 ∧ x.val = p.2 := fun x hx => by
    have : (x.key, x.val) ∈ V.map (fun p => (Value.int .i64 p.1, p.2)) := by rw [← h2]; exact List.mem_map.2 ⟨x, hx, rfl⟩
    obtain ⟨p, hp, hp2⟩ := List.mem_map.1 this
    simp only [Prod.mk.injEq] at hp2
    exact ⟨p, hp, hp2.1.symm, hp2.2.symm⟩
  have hkn : (es.toList.map (·.key)).Nodup := by
    have e1 : es.toList.map (·.key) = V.map (fun p => Value.int .i64 p.1) := by
      have := congrArg (List.map Prod.fst) h2
      simpa [List.map_map, Function.comp_def] using this
    rw [e1]
    refine List.pairwise_map.2 (List.Pairwise.imp (fun h e => h ?_) (List.pairwise_map.1 h5))
    injection e
  rcases Nat.eq_zero_or_pos cnt with h0 | h0
  · left
    refine ⟨h0, fun p hp hl => ?_, fun ty => ?_⟩
    · obtain ⟨x, hx, hk, -⟩ := hsome p hp
      have := (h9 x hx p.1 hk).1 hl
      rw [all_seen es seen (h8.trans h0) x hx] at this
      cases this
    · rcases run_next_at (P := P) w ty r m clock c0 seen es clock h6 h1 h3 h7 with ⟨-, hrun⟩ | ⟨x, hx, -⟩
      · exact hrun
      · have : 0 < (leftOf es seen).size := by
          rw [← Array.length_toList]; exact List.length_pos_of_mem hx
        omega
  · right
    have key : ∀ ty, ∃ x ∈ (leftOf es seen).toList, ∃ w1 : World, (w1 = w ∨ w1 = w.drew) ∧ (Instr.next (.pointer (some ⟨r, 0, none⟩)) false ty).run P w = .ok (.tuple #[.bool true, x.key, x.val]) (Go.ChangeMaps.setBlock w1 r (.mapIter (some m) clock (seen.push x.born) clock)) := fun ty => by
      rcases run_next_at (P := P) w ty r m clock c0 seen es clock h6 h1 h3 h7 with ⟨e0, -⟩ | h
      · omega
      · exact h
    obtain ⟨x, hx, w1, hw1, hrun⟩ := key 0
    have hall : ∀ ty, (Instr.next (.pointer (some ⟨r, 0, none⟩)) false ty).run P w = (Instr.next (.pointer (some ⟨r, 0, none⟩)) false 0).run P w := fun ty => rfl
    obtain ⟨hxm, hxs⟩ := mem_left hx
    obtain ⟨p, hp, hpk, hpv⟩ := hback x hxm
    have hb1 : w1.heap = w.heap := by rcases hw1 with rfl | rfl <;> rfl
    have hr1 : w1.heap[r]? = some (.mapIter (some m) clock seen c0) := by rw [hb1]; exact h6
    have hset := heap_set (o' := .mapIter (some m) clock (seen.push x.born) clock) hr1
    have hm1 : (Go.ChangeMaps.setBlock w1 r (.mapIter (some m) clock (seen.push x.born) clock)).heap[m]? = some (.map es clock) := (hset.2 m (fun e => hne e.symm)).trans (by rw [hb1]; exact h1)
    have hen := run_entry_at (P := P) _ r m clock seen es clock x hset.1 hm1 hxm h4
    rw [hpk, hpv] at hrun hen
    refine ⟨p.1, p.2, _, _, hp, (h9 x hxm p.1 hpk).2 hxs, fun ty => (hall ty).trans hrun, ⟨es, clock, seen.push x.born, clock, hm1, h2, h3, h4, h5, hset.1, Nat.le_refl _, rfl, fun y hy ky hky => ?_⟩, h8 ▸ left_shrinks es seen x hx, ?_, hen⟩
    · show (left ky ∧ ky ≠ p.1) ↔ _
      rw [contains_push, h9 y hy ky hky]
      by_cases hb : y.born = x.born
      · obtain rfl := map_inj_of_nodup h4 hy hxm hb
        rw [hpk] at hky
        injection hky with _ e1
        subst e1
        simp
      · have hk : ky ≠ p.1 := fun e => hb (by rw [map_inj_of_nodup hkn hy hxm (by rw [hky, hpk, e])])
        simp [hb, hk]
    · rcases hw1 with rfl | rfl <;> exact ⟨rfl, rfl, rfl, by simp [Go.ChangeMaps.setBlock], fun i _ hi => hset.2 i (fun e1 => hi (by rw [e1]))⟩
theorem wpList_next_run {P : Program} {ops : Array Oper} {rest : List Oper} {o : Oper} {a : Act} {w : World} {Q : Exit → Act → World → Prop} (hgd : o.guard = none) (x : Operand)
    (ho : o.op = Op.next x false) (v : Value) (hx : a.eval x = v) {v' : Value} {w' : World}
    (hr : ∀ ty, (Instr.next v false ty).run P w = .ok v' w') (h : wpList P ops Q rest (a.put o.dst v') w') : wpList P ops Q (o :: rest) a w :=
  wpList_plain hgd fun _ hK => by
    unfold Oper.wp execOp
    simp only [ho, Sem.run_bind, Sem.run_pure, Result.andThen_ok, hx, hr]
    exact hK _ _ h
theorem wpList_range_run {P : Program} {ops : Array Oper} {rest : List Oper} {o : Oper} {a : Act} {w : World} {Q : Exit → Act → World → Prop} (hgd : o.guard = none) (x : Operand) (t : TypeId)
    (ho : o.op = Op.range t x) (v : Value) (hx : a.eval x = v) {v' : Value} {w' : World}
    (hr : (Instr.range t v).run P w = .ok v' w') (h : wpList P ops Q rest (a.put o.dst v') w') : wpList P ops Q (o :: rest) a w :=
  wpList_plain hgd fun _ hK => by
    unfold Oper.wp execOp
    simp only [ho, Sem.run_bind, Sem.run_pure, Result.andThen_ok, hx, hr]
    exact hK _ _ h
end Go.Proofs.Ytihljjfnjclefaa
/- A disk: the walk through Flush. -/
set_option linter.unusedVariables false
set_option linter.unusedSimpArgs false
namespace Go.Proofs.Ytihljjfnjclefaa
open Go.ChangeShapes Go.WideShapes Go.ChangeAt Go.RowKit Go.MapKept

theorem mget_of_mem : ∀ {V : List (Int × Value)}, (V.map (·.1)).Nodup → ∀ {k : Int} {v : Value}, (k, v) ∈ V → mget V k = some v
  | [], _, _, _, h => by cases h
  | (k', v') :: V, hn, k, v, h => by
    rw [List.map_cons, List.nodup_cons] at hn
    rw [mget]
    rcases List.mem_cons.1 h with e | h'
    · cases e; rw [if_pos rfl]
    · rw [if_neg (fun e => hn.1 (List.mem_map.2 ⟨(k, v), h', e.symm⟩))]
      exact mget_of_mem hn.2 h'
/-- What the bytes are when some are still to come. -/
def FlushAt (M : List (Int × List Byte)) (b b' : List Byte) (n : Nat) (left : Int → Prop) : Prop :=
  b'.length = 512 * n ∧ ∀ k, k < n → (left (k : Int) → sec b' k = sec b k) ∧ (¬ left (k : Int) → sec b' k = (cget M k).getD (sec b k))
theorem FlushAt.step {M : List (Int × List Byte)} {b b' : List Byte} {n : Nat} {left : Int → Prop} (h : FlushAt M b b' n left) {k : Nat} (hk : k < n) {x : List Byte} (hx : x.length = 512) (hc : cget M (k : Int) = some x) :
    FlushAt M b (splice b' (512 * k) x) n (fun y => left y ∧ y ≠ (k : Int)) := by
  refine ⟨by rw [length_splice _ _ _ (by rw [h.1]; omega)]; exact h.1, fun k' hk' => ?_⟩
  by_cases e : k' = k
  · subst e
    refine ⟨fun h' => absurd rfl h'.2, fun _ => ?_⟩
    rw [sec_splice_same h.1 hk (by omega), List.drop_of_length_le (by rw [sec_len h.1 hk]; omega), List.append_nil, hc]; rfl
  · rw [sec_splice_other h.1 hk (by omega) e]
    have := h.2 k' hk'
    exact ⟨fun h' => this.1 h'.1, fun h' => this.2 (fun hl => h' ⟨hl, by omega⟩)⟩
theorem FlushAt.done {M : List (Int × List Byte)} {b b' : List Byte} {n : Nat} {left : Int → Prop} (h : FlushAt M b b' n left) (hb : b.length = 512 * n) (hM : ∀ p ∈ M, 0 ≤ p.1 ∧ p.1 < n ∧ p.2.length = 512) (hn : (M.map (·.1)).Nodup) (hl : ∀ p ∈ M, ¬ left p.1) : b' = flushB M b :=
  flushB_of hb h.1 hM hn (fun k hk => by
    have := h.2 k hk
    by_cases e : left (k : Int)
    · rw [this.1 e]
      cases hc : cget M (k : Int) with
      | none => rfl
      | some x =>
        obtain ⟨i, hi, hx⟩ := cget_some_at hc
        exact absurd e (hl _ (List.mem_of_getElem? hx))
    · exact this.2 e)
/-- What Flush returns, and leaves. -/
def sdFlush (D : DiskSt) : Int × DiskSt := if (ffail D.fuse).1 then (8, { D with fuse := (ffail D.fuse).2 }) else (0, ⟨flushB D.M D.b, [], (ffail D.fuse).2⟩)
set_option maxRecDepth 100000 in
set_option maxHeartbeats 2000000 in
theorem dsk_Flush {w : World} {F : List Nat} {g n : Nat} {D : DiskSt} (h : Dsk w F g n D) :
    Calls Try.prog 35 #[.pointer (some ⟨g, 0, none⟩)] w fun e w' => e = .returned (.int .i64 (sdFlush D).1) ∧ Dsk w' F g n (sdFlush D).2 ∧ TS F w w' := by
  have H := Lib.hid h
  have HFA := Lib.hid (dsk_fails h)
  have HOK := Lib.hid h.ok
  unfold sdFlush
  cases hff : (ffail D.fuse).1 with
  | true =>
    rw [if_pos rfl]
    rw [hff] at HFA
    clear h hff
    go_enter Try.func35, Try.ntmps35
    go_wp2_with fail
    refine (dsk_made H.out).mono ?_
    rintro e w1 ⟨rfl, rfl⟩
    go_wp2_with fail
    refine HFA.out.mono ?_
    rintro e w1 ⟨rfl, hd, ht⟩
    have HD1 := Lib.hid hd
    have HT1 := Lib.hid ht
    clear hd ht
    go_wp2
    go_ret
    exact ⟨rfl, HD1.out, HT1.out⟩
  | false =>
    rw [if_neg (by simp)]
    rw [hff] at HFA
    generalize (ffail D.fuse).2 = fz at *
    clear h hff
    go_enter Try.func35, Try.ntmps35
    go_wp2_with fail
    refine (dsk_made H.out).mono ?_
    rintro e w1 ⟨rfl, rfl⟩
    go_wp2_with fail
    refine HFA.out.mono ?_
    rintro e w1 ⟨rfl, hd, ht⟩
    have HD1 := Lib.hid hd
    have HT1 := Lib.hid ht
    clear ht
    obtain ⟨gb, c, gm, O, oc, L, V, hp⟩ := hd.parts
    obtain ⟨p0, p1, p2, p3⟩ := row4 hp.row
    rw [List.length_map] at p2
    obtain ⟨wi, hrange, ⟨cnt0, hit⟩, hfi⟩ := map_range Try.underlying97 hp.map
    have HIT := Lib.hid hit
    have HP1 := Lib.hid (hp.ts (TS.of (F := []) hfi) (by simp))
    have HRN := Lib.hid (show w1.heap.size ∉ F from fun hm => by have := hp.lt _ hm; omega)
    have HTI := Lib.hid (TS.of (F := F) hfi)
    have HNM := Lib.hid hp.nodupM
    have HFL := Lib.hid (show FlushAt D.M D.b D.b n (fun _ => True) from ⟨HOK.out.len, fun k hk => ⟨fun _ => rfl, fun h => absurd trivial h⟩⟩)
    clear hd hp hit hfi
    go_wp2_with (at_range; refine wpList_range_run rfl _ _ rfl _ rfl hrange ?_)
    go_frame
    clear hrange p0 p1 p2 p3
    go_loopw [] (fun wr => ∃ left cnt b', Hid (MapIt wr gm w1.heap.size V left cnt) ∧ Hid (DskC wr F g n gb c gm O oc L V { D with b := b', fuse := fz } (D.M.map (·.1))) ∧ Hid (TS F w1 wr) ∧ Hid (FlushAt D.M D.b b' n left)) (fun wr => wr.rangeLeft gm w1.heap.size)
    case atStart => exact ⟨_, _, _, HIT.out, HP1.out, HTI.out, HFL.out⟩
    case round =>
      obtain ⟨left, cnt, b', HI, HC, HT, HFB⟩ := hrel
      rcases map_next (P := Try.prog) HI.out with ⟨hc0, hno, hrun⟩ | ⟨k, v, w2, cnt2, hmem, hlk, hrun, hit2, hlt, htb, hen⟩
      · have hkeys := HC.out.vals.keys
        have hb' : b' = flushB D.M D.b := HFB.out.done HOK.out.len HOK.out.M HNM.out (fun p hp hl => by
          have : p.1 ∈ V.map (·.1) := by rw [hkeys]; exact List.mem_map.2 ⟨p, hp, rfl⟩
          obtain ⟨q, hq, e⟩ := List.mem_map.1 this
          exact hno q hq (by rw [e]; exact hl))
        have HB' := Lib.hid hb'
        have hDC := HC.out
        obtain ⟨q0, q1, q2, q3⟩ := row4 hDC.row
        obtain ⟨w2, hcl, hm2, htb2⟩ := map_clear Try.underlying97 hDC.map 0
        obtain ⟨hrow2, hD2, hT2⟩ := hDC.cleared ⟨HFB.out.1, HOK.out.n1, HOK.out.n2, HOK.out.M, HD1.out.ok.f⟩ hm2 htb2
        obtain ⟨s0, s1, s2, s3⟩ := row4 hrow2
        have sf2 := frozen_row _ hrow2 2
        have HD2 := Lib.hid hD2
        have HT2 := Lib.hid (HT1.out.then (HT.out.then hT2))
        clear hDC hrow2 hD2 hT2 hm2 htb2 hb' hno hkeys
        go_wp2_with (at_next; refine wpList_next_run rfl _ rfl _ rfl hrun ?_)
        go_wp2_with (refine wpList_clear_run rfl _ _ rfl _ rfl hcl ?_)
        go_ret
        exact ⟨rfl, by rw [← HB'.out]; exact HD2.out, HT2.out⟩
      · have htr : TS [w1.heap.size] wr w2 := TS.tb htb (by simp)
        have hDC := HC.out.ts htr (by simp only [List.mem_singleton]; rintro x rfl; exact HRN.out)
        have hmg := mget_of_mem (by rw [hDC.vals.keys]; exact HNM.out) hmem
        rcases hDC.vals.get k with ⟨e1, -⟩ | ⟨A, ca, x, e1, hcg, hr, hca, -, -⟩
        · rw [hmg] at e1; cases e1
        · obtain rfl : v = .slice A x.length ca := by rw [hmg] at e1; cases e1; rfl
          obtain ⟨i, hi, hix⟩ := cget_some_at hcg
          have hpm := HOK.out.M _ (List.mem_of_getElem? hix)
          simp only at hpm
          obtain ⟨kn, rfl⟩ : ∃ kn : Nat, k = (kn : Int) := ⟨k.toNat, by omega⟩
          have hkn : kn < n := by omega
          have HXL := Lib.hid hpm.2.2
          have HDC := Lib.hid hDC
          have HST := Lib.hid (HFB.out.step hkn HXL.out hcg)
          have HRX := Lib.hid hr
          have HIT2 := Lib.hid hit2
          have HTR := Lib.hid htb
          have HWH := Lib.hid (hDC.whole ⟨HFB.out.1, HOK.out.n1, HOK.out.n2, HOK.out.M, HD1.out.ok.f⟩)
          have HLE := Lib.hid (show w2.rangeLeft gm w1.heap.size < wr.rangeLeft gm w1.heap.size from by rw [hit2.left_eq, HI.out.left_eq]; exact hlt)
          rw [HXL.out] at hen hrun
          have HQ0 := Lib.hid (row4 hDC.row).1
          clear hDC hmg e1 hcg hr hca hi hix hpm hit2 htb htr hmem hlk hlt
          go_wp2_with (at_next; refine wpList_next_run rfl _ rfl _ rfl hrun ?_)
          refine (dsk_sector HWH.out kn hkn).mono ?_
          rintro e w' ⟨gb2, c3, rfl, k1, k2, -, hc0, rfl⟩
          obtain ⟨rfl, hcc⟩ : gb2 = gb ∧ c = c3 + 512 * kn := by
            have := HQ0.out
            rw [this] at hc0
            simp only [Option.some.injEq, Value.slice.injEq, Addr.mk.injEq] at hc0
            exact ⟨hc0.1.1.symm, hc0.2.2⟩
          obtain ⟨w6, hrun6, hown, htb6⟩ := run_copy_sec HDC.out.bytes (512 * kn) 512 c3 A ca x HRX.out (by rw [HXL.out]; exact Nat.le_refl _) (by rw [HXL.out, HFB.out.1]; omega)
          rw [HXL.out] at hrun6
          obtain ⟨hd6, ht6⟩ := HDC.out.copied _ hown htb6
          have HD6 := Lib.hid hd6
          have HT6 := Lib.hid (show TS F w1 w6 from by
            refine (HT.out.trans (TS.tb HTR.out (List.mem_singleton.2 rfl) : TS [w1.heap.size] wr w2) (fun x hx => .inr (by simp only [List.mem_singleton] at hx; omega))).then ht6)
          have hlt2 := HIT2.out.lt
          have hgm : gb2 ≠ gm := fun e => by have := HDC.out.nodup; simp [dctl, e] at this
          have hgr : gb2 ≠ w1.heap.size := fun e => HRN.out (e ▸ HDC.out.mem gb2 (by simp [dctl]))
          have HIT6 := Lib.hid (HIT2.out.move (w' := w6) (htb6.out.block _ hlt2.1 (by simpa using fun e => hgm e.symm)) (htb6.out.block _ hlt2.2.1 (by simpa using fun e => hgr e.symm)))
          have HLE6 := Lib.hid (show w6.rangeLeft gm w1.heap.size < wr.rangeLeft gm w1.heap.size from by rw [HIT6.out.left_eq, ← HIT2.out.left_eq]; exact HLE.out)
          clear hown htb6 hd6 ht6 hc0 hcc hlt2 hgm hgr
          go_wp2_with (refine wpList_copy_by rfl _ _ _ _ rfl _ _ rfl rfl hrun6 ?_)
          go_frame
          go_roundw
          case rel => exact ⟨_, _, _, HIT6.out, HD6.out, HT6.out, HST.out⟩
          case measure => exact HLE6.out
end Go.Proofs.Ytihljjfnjclefaa
/- page over no disk; what Load and Save do where no fault is set. -/
set_option linter.unusedVariables false
set_option linter.unusedSimpArgs false
namespace Go.Proofs.Ytihljjfnjclefaa
open Go.ChangeShapes Go.WideShapes Go.ChangeAt Go.RowKit Go.MapKept

set_option maxRecDepth 100000 in
theorem pn_made (w : World) : Calls Try.prog 57 #[.pointer none] w fun e w' => e = .returned (.bool false) ∧ w = w' := by
  go_enter Try.func57, Try.ntmps57
  go_wp2
  go_ret
  exact ⟨rfl, rfl⟩
set_option maxRecDepth 100000 in
theorem pn_Sectors (w : World) : Calls Try.prog 42 #[.pointer none] w fun e w' => e = .returned (.int .i64 0) ∧ w = w' := by
  go_enter Try.func42, Try.ntmps42
  go_wp2_with fail
  refine (pn_made _).mono ?_
  rintro e w1 ⟨rfl, rfl⟩
  go_wp2
  go_ret
  exact ⟨rfl, rfl⟩
set_option maxRecDepth 100000 in
theorem pn_Pages (w : World) : Calls Try.prog 45 #[.pointer none] w fun e w' => e = .returned (.int .i64 0) ∧ w = w' := by
  go_enter Try.func45, Try.ntmps45
  go_wp2_with fail
  refine (pn_Sectors _).mono ?_
  rintro e w1 ⟨rfl, rfl⟩
  go_wp2
  go_ret
  exact ⟨rfl, rfl⟩
set_option maxRecDepth 100000 in
theorem pn_right (k : Int) (w : World) : Calls Try.prog 67 #[.pointer none, .int .i64 k] w fun e w' => e = .returned (.int .i64 1) ∧ w = w' := by
  go_enter Try.func67, Try.ntmps67
  go_wp2
  go_ret
  exact ⟨rfl, rfl⟩
set_option maxRecDepth 100000 in
theorem pn_Load (k : Int) (w : World) : Calls Try.prog 44 #[.pointer none, .int .i64 k] w fun e w' => e = .returned (.tuple #[.slice none 0 0, .int .i64 1]) ∧ w = w' := by
  go_enter Try.func44, Try.ntmps44
  go_wp2_with fail
  refine (pn_right k _).mono ?_
  rintro e w1 ⟨rfl, rfl⟩
  go_wp2
  go_ret2
  exact ⟨rfl, rfl⟩
set_option maxRecDepth 100000 in
theorem pn_Save (k : Int) (v : Value) (w : World) : Calls Try.prog 47 #[.pointer none, .int .i64 k, v] w fun e w' => e = .returned (.int .i64 1) ∧ FB w w' := by
  go_enter_defers Try.func47, Try.ntmps47
  go_wp2_with fail
  refine (pn_right k _).mono ?_
  rintro e w1 ⟨rfl, rfl⟩
  go_wp2
  refine ⟨.int .i64 1, ?_, rfl, (FB.refl w).alloc _⟩
  simp [results, Try.results47, go_sem]
/-! ### no fault -/
/-- Sector s, as it is read. -/
def secV (D : DiskSt) (s : Nat) : List Byte := (cget D.M (s : Int)).getD (sec D.b s)
def catV (V : Nat → List Byte) : Nat → Nat → List Byte
  | 0, _ => []
  | r + 1, i => V i ++ catV V r (i + 1)
theorem ldF_ok {D : DiskSt} {n k : Nat} (hf : D.fuse = none) : ∀ (r i : Nat) (out : List Byte), k * 8 + i + r ≤ n → ldF n (k : Int) r i out D = (out ++ catV (secV D) r (k * 8 + i), 0, D) := by
  intro r
  induction r with
  | zero => intro i out _; simp [ldF, catV]
  | succ r ih =>
    intro i out h
    have e : (k : Int) * 8 + (i : Int) = ((k * 8 + i : Nat) : Int) := by omega
    rw [ldF, e, sdRead_ok (by omega) (by omega) hf, if_pos rfl]
    show ldF n (k : Int) r (i + 1) _ D = _
    rw [ih (i + 1) _ (by omega), catV, List.append_assoc]
    rfl
theorem sdLoad_ok {D : DiskSt} {n k : Nat} (hf : D.fuse = none) (hk : k < n / 8) : sdLoad D n (k : Int) = (catV (secV D) 8 (k * 8), 0, D) := by
  unfold sdLoad
  rw [if_neg (by unfold pgOut; omega), ldF_ok hf 8 0 [] (by omega)]
  simp
theorem catV_congr {V V' : Nat → List Byte} : ∀ (r i i' : Nat), (∀ j, j < r → V (i + j) = V' (i' + j)) → catV V r i = catV V' r i' := by
  intro r
  induction r with
  | zero => intro i i' _; rfl
  | succ r ih =>
    intro i i' h
    rw [catV, catV, show V i = V' i' from h 0 (by omega), ih (i + 1) (i' + 1) (fun j hj => by have := h (j + 1) (by omega); rw [show i + (j + 1) = i + 1 + j by omega, show i' + (j + 1) = i' + 1 + j by omega] at this; exact this)]
theorem catV_sec (b : List Byte) : ∀ (r i : Nat), catV (sec b) r i = (b.drop (512 * i)).take (512 * r) := by
  intro r
  induction r with
  | zero => intro i; simp [catV]
  | succ r ih =>
    intro i
    rw [catV, ih, sec, show 512 * (i + 1) = 512 * i + 512 by omega, ← List.drop_drop, show 512 * (r + 1) = 512 + 512 * r by omega, List.take_add]
theorem catV_whole {xs : List Byte} (h : xs.length = 4096) : catV (sec xs) 8 0 = xs := by
  rw [catV_sec, Nat.mul_zero, List.drop_zero, List.take_of_length_le (by omega)]
theorem cget_put (M : List (Int × List Byte)) (k k' : Int) (x : List Byte) : cget (cput M k x) k' = if k' = k then some x else cget M k' := by
  induction M with
  | nil =>
    by_cases h : k' = k
    · subst h; simp [cput, cget]
    · rw [if_neg h]; simp [cput, cget]; omega
  | cons p M ih =>
    obtain ⟨a, v⟩ := p
    rw [cput]
    by_cases h : a = k
    · subst h
      rw [if_pos rfl, cget, cget]
      by_cases h2 : k' = a
      · rw [if_pos h2.symm, if_pos h2]
      · rw [if_neg (fun e => h2 e.symm), if_neg h2, if_neg (fun e => h2 e.symm)]
    · rw [if_neg h, cget, cget, ih]
      by_cases h2 : a = k'
      · rw [if_pos h2, if_pos h2, if_neg (by omega)]
      · rw [if_neg h2, if_neg h2]
/-- A page's sectors laid over. -/
def layV (V : Nat → List Byte) (k : Nat) (xs : List Byte) (m : Nat) : Nat → List Byte := fun s => if k * 8 ≤ s ∧ s < k * 8 + m then sec xs (s - k * 8) else V s
theorem svF_ok {n k : Nat} {xs : List Byte} (hl : xs.length = 4096) : ∀ (r i : Nat) (D : DiskSt), D.fuse = none → i + r = 8 → k * 8 + 8 ≤ n → ∃ M, svF n (k : Int) xs r i D = (0, ⟨D.b, M, none⟩) ∧ ∀ s, secV ⟨D.b, M, none⟩ s = if k * 8 + i ≤ s ∧ s < k * 8 + 8 then sec xs (s - k * 8) else secV D s := by
  intro r
  induction r with
  | zero =>
    intro i D hf hi hn
    refine ⟨D.M, ?_, fun s => ?_⟩
    · rw [svF, ← hf]
    · rw [if_neg (by omega)]; rfl
  | succ r ih =>
    intro i D hf hi hn
    have e : (k : Int) * 8 + (i : Int) = ((k * 8 + i : Nat) : Int) := by omega
    have hsl : (sec xs i).length = 512 := sec_len (n := 8) hl (by omega)
    rw [svF, e, sdWrite_ok (by omega) (by omega) hsl hf, if_pos rfl]
    obtain ⟨M, h1, h2⟩ := ih (i + 1) ⟨D.b, cput D.M ((k * 8 + i : Nat) : Int) (sec xs i), none⟩ rfl (by omega) hn
    refine ⟨M, h1, fun s => ?_⟩
    rw [h2 s]
    by_cases hs : k * 8 + (i + 1) ≤ s ∧ s < k * 8 + 8
    · rw [if_pos hs, if_pos (by omega)]
    · rw [if_neg hs]
      unfold secV
      rw [cget_put]
      by_cases hs2 : s = k * 8 + i
      · subst hs2
        rw [if_pos rfl, if_pos (by omega), show k * 8 + i - k * 8 = i by omega]
        rfl
      · rw [if_neg (by omega), if_neg (by omega)]
theorem sdSave_ok {D : DiskSt} {n k : Nat} {xs : List Byte} (hf : D.fuse = none) (hk : k < n / 8) (hl : xs.length = 4096) :
    ∃ M, sdSave D n (k : Int) xs = (0, ⟨D.b, M, none⟩) ∧ ∀ s, secV ⟨D.b, M, none⟩ s = layV (secV D) k xs 8 s := by
  unfold sdSave
  rw [if_neg (by unfold pgOut; rw [hl]; omega)]
  exact svF_ok hl 8 0 D hf rfl (by omega)
theorem sdSave_bad {D : DiskSt} {n : Nat} {k : Int} {xs : List Byte} (hl : xs.length ≠ 4096) : sdSave D n k xs = (2, D) := by
  unfold sdSave; rw [if_pos (.inr hl)]
theorem layV_same (V : Nat → List Byte) {k : Nat} {xs : List Byte} (h : xs.length = 4096) : catV (layV V k xs 8) 8 (k * 8) = xs :=
  (catV_congr (V' := sec xs) 8 (k * 8) 0 (fun j hj => by unfold layV; rw [if_pos (by omega), show k * 8 + j - k * 8 = 0 + j by omega])).trans (catV_whole h)
theorem layV_other (V : Nat → List Byte) {k k' : Nat} (xs : List Byte) (h : k' ≠ k) : catV (layV V k xs 8) 8 (k' * 8) = catV V 8 (k' * 8) :=
  catV_congr 8 _ _ (fun j hj => by unfold layV; rw [if_neg (by omega)])
theorem sdFlush_ok {D : DiskSt} (hf : D.fuse = none) : sdFlush D = (0, ⟨flushB D.M D.b, [], none⟩) := by
  unfold sdFlush; rw [hf]; rfl
theorem secV_clean (b : List Byte) (f : Option Int) (s : Nat) : secV ⟨b, [], f⟩ s = sec b s := rfl
theorem secV_flush {D : DiskSt} {n : Nat} (h : D.ok n) (hn : (D.M.map (·.1)).Nodup) (f : Option Int) {s : Nat} (hs : s < n) : secV ⟨flushB D.M D.b, [], f⟩ s = secV D s := by
  rw [secV_clean, sec_flushB h.len hs h.M hn]; rfl
/-- A page's bytes in the image. -/
theorem catV_image (b : List Byte) (f : Option Int) (k : Nat) : catV (secV ⟨b, [], f⟩) 8 (k * 8) = (b.drop (4096 * k)).take 4096 := by
  refine (catV_congr (V' := sec b) 8 (k * 8) (k * 8) (fun j _ => rfl)).trans ?_
  rw [catV_sec, show 512 * (k * 8) = 4096 * k by omega]
end Go.Proofs.Ytihljjfnjclefaa
/- root, plain: what Find finds on a disk without a fault; pages that are saved, flushed, and left by a crash. -/
set_option linter.unusedVariables false
set_option linter.unusedSimpArgs false
namespace Go.Proofs.Ytihljjfnjclefaa
open Go.ChangeShapes Go.WideShapes Go.ChangeAt Go.RowKit

/-- A page, as it is read. -/
def pgAt (D : DiskSt) (k : Nat) : List Byte := catV (secV D) 8 (k * 8)
def fdPick (b0 b1 : List Byte) (n : Nat) : Rt × Int :=
  ((rtCh (if fdS (rtR b0) 0 n then (rtR b0).1 else rt0) (if fdS (rtR b1) 1 n then (rtR b1).1 else rt0) (fdS (rtR b0) 0 n) (fdS (rtR b1) 1 n)).1,
    if (rtCh (if fdS (rtR b0) 0 n then (rtR b0).1 else rt0) (if fdS (rtR b1) 1 n then (rtR b1).1 else rt0) (fdS (rtR b0) 0 n) (fdS (rtR b1) 1 n)).2 then 0 else 4)
theorem rtFd_clean {D : DiskSt} {n : Nat} (hf : D.fuse = none) (hg : rtGreat n = true) : rtFd D n = (fdPick (pgAt D 0) (pgAt D 1) n, D) := by
  have hg2 : 8 ≤ n / 8 := by unfold rtGreat at hg; simp at hg; omega
  have h0 : sdLoad D n 0 = (pgAt D 0, 0, D) := sdLoad_ok (k := 0) hf (by omega)
  have h1 : sdLoad D n 1 = (pgAt D 1, 0, D) := sdLoad_ok (k := 1) hf (by omega)
  unfold rtFd
  rw [hg, if_pos rfl]
  unfold fdFrom0
  rw [h0]
  unfold fdFrom1
  simp only [h1, if_true]
  unfold fdEnd fdPick
  cases fdS (rtR (pgAt D 0)) 0 n <;> cases fdS (rtR (pgAt D 1)) 1 n <;> simp
/-- A page that holds a root which may count in slot s. -/
def fdV (b : List Byte) (s n : Nat) (r : Rt) : Prop := rtR b = (r, 0) ∧ rtSlot r = s ∧ r.P.toNat = n / 8
theorem fdV.s {b : List Byte} {s n : Nat} {r : Rt} (h : fdV b s n r) : fdS (rtR b) s n = true := by
  unfold fdS
  rw [h.1, decide_eq_true h.2.1, decide_eq_true h.2.2]; rfl
theorem fdV.of {b : List Byte} {s n : Nat} (h : fdS (rtR b) s n = true) : fdV b s n (rtR b).1 := by
  unfold fdS at h
  simp only [Bool.and_eq_true, decide_eq_true_eq] at h
  exact ⟨Prod.ext rfl h.1.1, h.1.2, h.2⟩
theorem fdPick_both {b0 b1 : List Byte} {n : Nat} {r0 r1 : Rt} (h0 : fdV b0 0 n r0) (h1 : fdV b1 1 n r1) : fdPick b0 b1 n = (if r1.E.toNat ≤ r0.E.toNat then r0 else r1, 0) := by
  unfold fdPick
  rw [h0.s, h1.s, h0.1, h1.1, if_pos rfl, if_pos rfl]
  unfold rtCh
  by_cases h : r1.E.toNat ≤ r0.E.toNat
  · rw [decide_eq_true h, if_pos h]; rfl
  · rw [decide_eq_false h, if_neg h]; rfl
theorem fdPick_0 {b0 b1 : List Byte} {n : Nat} {r0 : Rt} (h0 : fdV b0 0 n r0) (h1 : fdS (rtR b1) 1 n = false) : fdPick b0 b1 n = (r0, 0) := by
  unfold fdPick
  rw [h0.s, h1, h0.1]; rfl
theorem fdPick_1 {b0 b1 : List Byte} {n : Nat} {r1 : Rt} (h0 : fdS (rtR b0) 0 n = false) (h1 : fdV b1 1 n r1) : fdPick b0 b1 n = (r1, 0) := by
  unfold fdPick
  rw [h1.s, h0, h1.1]; rfl
theorem fdPick_no {b0 b1 : List Byte} {n : Nat} (h0 : fdS (rtR b0) 0 n = false) (h1 : fdS (rtR b1) 1 n = false) : fdPick b0 b1 n = (rt0, 4) := by
  unfold fdPick
  rw [h0, h1]; rfl
theorem fdS_bad {b : List Byte} {s n : Nat} (h : (rtR b).2 ≠ 0) : fdS (rtR b) s n = false := by
  unfold fdS
  rw [decide_eq_false h]; rfl
theorem pgR_zeros4 : (pgR (List.replicate 4096 0#8)).2 ≠ 0 := by
  have hk : pgKd (List.replicate 4096 0#8) = 0 := by
    unfold pgKd
    rw [List.getD_eq_getElem?_getD, List.getElem?_replicate, if_pos (by omega)]; rfl
  have hb : pgB 0 (pgNm (List.replicate 4096 0#8)) (List.drop 16 (List.replicate 4096 0#8)) = ([], 2) := by
    unfold pgB
    have : pgOk 0 (List.drop 16 (List.replicate 4096 0#8)) = false := by
      cases h : pgOk 0 (List.drop 16 (List.replicate 4096 0#8)) with
      | false => rfl
      | true => have := pgOk_iff.1 h; omega
    rw [this]; rfl
  unfold pgR
  rw [hk, hb, if_neg]
  · simp
  · rintro ⟨-, h⟩
    have := congrArg Prod.snd h
    simp at this
theorem rtR_zeros : (rtR (List.replicate 4096 0#8)).2 ≠ 0 := by
  rw [rtR_far (.inl pgR_zeros4)]; simp
/-! ### saving -/
theorem cput_app {M : List (Int × List Byte)} {k : Int} (x : List Byte) (h : cget M k = none) : cput M k x = M ++ [(k, x)] := by
  induction M with
  | nil => rfl
  | cons p M ih =>
    obtain ⟨k', v⟩ := p
    rw [cget] at h
    split at h
    · cases h
    · rename_i hne; rw [cput, if_neg hne, ih h]; rfl
/-- The sectors of a page as they come into the cache. -/
def pageM (k : Nat) (xs : List Byte) : Nat → Nat → List (Int × List Byte)
  | 0, _ => []
  | r + 1, i => (((k * 8 + i : Nat) : Int), sec xs i) :: pageM k xs r (i + 1)
theorem svF_app {n k : Nat} {xs : List Byte} (hl : xs.length = 4096) : ∀ (r i : Nat) (D : DiskSt), D.fuse = none → i + r = 8 → k * 8 + 8 ≤ n → (∀ j, i ≤ j → j < 8 → cget D.M ((k * 8 + j : Nat) : Int) = none) → svF n (k : Int) xs r i D = (0, ⟨D.b, D.M ++ pageM k xs r i, none⟩) := by
  intro r
  induction r with
  | zero => intro i D hf hi hn h; rw [svF, pageM, List.append_nil, ← hf]
  | succ r ih =>
    intro i D hf hi hn h
    have e : (k : Int) * 8 + (i : Int) = ((k * 8 + i : Nat) : Int) := by omega
    have hsl : (sec xs i).length = 512 := sec_len (n := 8) hl (by omega)
    rw [svF, e, sdWrite_ok (by omega) (by omega) hsl hf, if_pos rfl]
    rw [ih (i + 1) ⟨D.b, cput D.M ((k * 8 + i : Nat) : Int) (sec xs i), none⟩ rfl (by omega) hn (fun j h1 h2 => by rw [cget_put, if_neg (by omega)]; exact h j (by omega) h2)]
    rw [cput_app _ (h i (by omega) (by omega)), pageM, List.append_assoc]; rfl
theorem pageM_get (k : Nat) (xs : List Byte) : ∀ (r i j : Nat), j < r → (pageM k xs r i)[j]? = some (((k * 8 + (i + j) : Nat) : Int), sec xs (i + j)) := by
  intro r
  induction r with
  | zero => intro i j h; omega
  | succ r ih =>
    intro i j h
    rw [pageM]
    cases j with
    | zero => rfl
    | succ j => rw [List.getElem?_cons_succ, ih (i + 1) j (by omega), show i + 1 + j = i + (j + 1) by omega]
theorem pageM_len (k : Nat) (xs : List Byte) : ∀ (r i : Nat), (pageM k xs r i).length = r := by
  intro r
  induction r with
  | zero => intro i; rfl
  | succ r ih => intro i; rw [pageM, List.length_cons, ih]
theorem pageM_keys (k : Nat) (xs : List Byte) : ∀ (r i : Nat) (p : Int × List Byte), p ∈ pageM k xs r i → ∃ j, i ≤ j ∧ j < i + r ∧ p.1 = ((k * 8 + j : Nat) : Int) := by
  intro r
  induction r with
  | zero => intro i p h; cases h
  | succ r ih =>
    intro i p h
    rw [pageM] at h
    rcases List.mem_cons.1 h with rfl | h
    · exact ⟨i, by omega, by omega, rfl⟩
    · obtain ⟨j, h1, h2, h3⟩ := ih (i + 1) p h
      exact ⟨j, by omega, by omega, h3⟩
theorem cget_none_of {M : List (Int × List Byte)} {k : Int} (h : ∀ p ∈ M, p.1 ≠ k) : cget M k = none := by
  induction M with
  | nil => rfl
  | cons p M ih =>
    obtain ⟨k', v⟩ := p
    rw [cget, if_neg (h (k', v) (by simp)), ih (fun p hp => h p (by simp [hp]))]
/-- A page is saved: it is read, the others are as they were; where it was not cached it comes last into the cache. -/
theorem sdSave_pg {D : DiskSt} {n k : Nat} {xs : List Byte} (hf : D.fuse = none) (hk : k < n / 8) (hl : xs.length = 4096) :
    ∃ M, sdSave D n (k : Int) xs = (0, ⟨D.b, M, none⟩) ∧ pgAt ⟨D.b, M, none⟩ k = xs ∧ (∀ k', k' ≠ k → pgAt ⟨D.b, M, none⟩ k' = pgAt D k') ∧ ((∀ j, j < 8 → cget D.M ((k * 8 + j : Nat) : Int) = none) → M = D.M ++ pageM k xs 8 0) := by
  obtain ⟨M, h1, h2⟩ := sdSave_ok (D := D) (n := n) (k := k) (xs := xs) hf hk hl
  refine ⟨M, h1, ?_, fun k' hne => ?_, fun h => ?_⟩
  · unfold pgAt
    rw [show secV ⟨D.b, M, none⟩ = layV (secV D) k xs 8 from funext h2]
    exact layV_same _ hl
  · unfold pgAt
    rw [show secV ⟨D.b, M, none⟩ = layV (secV D) k xs 8 from funext h2]
    exact layV_other _ xs hne
  · have h3 : sdSave D n (k : Int) xs = (0, ⟨D.b, D.M ++ pageM k xs 8 0, none⟩) := by
      unfold sdSave
      rw [if_neg (by unfold pgOut; rw [hl]; omega)]
      exact svF_app hl 8 0 D hf rfl (by omega) (fun j _ hj => h j hj)
    rw [h1] at h3
    have := congrArg (fun p => p.2.M) h3
    exact this
theorem pgAt_flush {D : DiskSt} {n k : Nat} (h : D.ok n) (hn : (D.M.map (·.1)).Nodup) (hk : k < n / 8) : pgAt ⟨flushB D.M D.b, [], none⟩ k = pgAt D k := by
  unfold pgAt
  exact catV_congr 8 _ _ (fun j hj => secV_flush h hn none (by omega))
/-! ### a crash -/
theorem pgAt_crash_other {f : Nat → Nat} {M : List (Int × List Byte)} {b : List Byte} {n k : Nat} (hb : b.length = 512 * n) (hM : ∀ p ∈ M, 0 ≤ p.1 ∧ p.1 < n ∧ p.2.length = 512) (hn : (M.map (·.1)).Nodup) (hf : ∀ i, f i ≤ 512)
    (h : ∀ (i : Nat) (p : Int × List Byte), M[i]? = some p → (∀ j, j < 8 → p.1 ≠ ((k * 8 + j : Nat) : Int)) ∨ f i = 0) : pgAt ⟨crashB f M b M.length, [], none⟩ k = pgAt ⟨b, [], none⟩ k := by
  unfold pgAt
  refine catV_congr 8 _ _ (fun j hj => ?_)
  rw [secV_clean, secV_clean]
  have hc := sec_crashB (f := f) (k := k * 8 + j) hb hM hn hf M.length
  cases hg : cget M ((k * 8 + j : Nat) : Int) with
  | none => exact hc.2 (fun i p _ hp => cget_none_at hg i p hp)
  | some x =>
    obtain ⟨i, hi, hx⟩ := cget_some_at hg
    rw [hc.1 i x hi hx]
    rcases h i _ hx with h | h
    · exact absurd rfl (h j hj)
    · rw [h]; simp
theorem pgAt_crash_kept {f : Nat → Nat} {M : List (Int × List Byte)} {b xs : List Byte} {n k m : Nat} (hb : b.length = 512 * n) (hM : ∀ p ∈ M, 0 ≤ p.1 ∧ p.1 < n ∧ p.2.length = 512) (hn : (M.map (·.1)).Nodup) (hf : ∀ i, f i ≤ 512) (hl : xs.length = 4096)
    (h : ∀ j, j < 8 → M[m + j]? = some (((k * 8 + j : Nat) : Int), sec xs j) ∧ f (m + j) = 512) : pgAt ⟨crashB f M b M.length, [], none⟩ k = xs := by
  unfold pgAt
  refine (catV_congr (V' := sec xs) 8 (k * 8) 0 (fun j hj => ?_)).trans (catV_whole hl)
  rw [secV_clean]
  have hc := sec_crashB (f := f) (k := k * 8 + j) hb hM hn hf M.length
  obtain ⟨h1, h2⟩ := h j hj
  rw [hc.1 (m + j) _ (List.getElem?_eq_some_iff.1 h1).1 h1, h2]
  have hs : (sec xs j).length = 512 := sec_len (n := 8) hl (by omega)
  rw [Nat.zero_add, List.take_of_length_le (by omega), List.drop_of_length_le, List.append_nil]
  unfold sec
  rw [List.length_take]; omega
theorem pgAt_zero {n k : Nat} (hk : k < n / 8) : pgAt ⟨List.replicate (512 * n) 0#8, [], none⟩ k = List.replicate 4096 0#8 := by
  unfold pgAt
  rw [catV_image, List.drop_replicate, List.take_replicate]
  congr 1
  omega
theorem keptLen_le (keep : List Bool) (T Y : Int) (i : Nat) : keptLen keep T Y i ≤ 512 := by
  unfold keptLen
  split
  · omega
  · split <;> omega
theorem Dsk.nodupK {w : World} {F : List Nat} {g n : Nat} {D : DiskSt} (h : Dsk w F g n D) : (D.M.map (·.1)).Nodup := by
  obtain ⟨gb, c, gm, O, oc, L, V, hc⟩ := h.parts
  exact hc.nodupM
/-- Write, where it may. -/
theorem rtW_ok {D : DiskSt} {n : Nat} {r : Rt} (ho : rtOk r = true) (hp : r.P.toNat = n / 8) : rtW D n r = sdSave D n (rtSlot r : Nat) (rtB r).1 := by
  unfold rtW; rw [if_pos ho, if_pos hp]
theorem rtB_page {r : Rt} (ho : rtOk r = true) : (rtB r).1.length = 4096 ∧ rtR (rtB r).1 = (r, 0) := by
  have h := rtB_of ho
  rw [h]
  exact ⟨pgBytes_len _ _ (by rw [rtBody_len]; omega), rtR_bytes h⟩
theorem rtSlot_lt (r : Rt) : rtSlot r < 2 := by unfold rtSlot; omega
end Go.Proofs.Ytihljjfnjclefaa
/- root: the chapter's examples, plain. -/
set_option linter.unusedVariables false
set_option linter.unusedSimpArgs false
namespace Go.Proofs.Ytihljjfnjclefaa
open Go.ChangeShapes Go.WideShapes Go.ChangeAt Go.RowKit
set_option maxRecDepth 100000

def rtE (e : BitVec 64) : Rt := ⟨e, 8#64, 0#64, 0#64, 0#64, 0#64, 0#64, 0#64, 0#64⟩
theorem rtE_ok {e : BitVec 64} (h : 1 ≤ e.toNat) : rtOk (rtE e) = true := rtOk_iff.2 ⟨h, (by decide : 8 ≤ (8#64).toNat), (by decide : (8#64).toNat ≤ 4096), (by decide : (0#64).toNat ≤ 65536), (by decide : rtHead 0#64 8#64 = true), (by decide : rtHead 0#64 8#64 = true)⟩
def lv0 : DiskSt := ⟨List.replicate (512 * 64) 0#8, [], none⟩
def lx1 : List Byte := (rtB (rtE 1#64)).1
def lx2 : List Byte := (rtB (rtE 2#64)).1
theorem lx1_page : lx1.length = 4096 ∧ rtR lx1 = (rtE 1#64, 0) := rtB_page (rtE_ok (by decide))
theorem lx2_page : lx2.length = 4096 ∧ rtR lx2 = (rtE 2#64, 0) := rtB_page (rtE_ok (by decide))
def lv1 : DiskSt := ⟨List.replicate (512 * 64) 0#8, pageM 1 lx1 8 0, none⟩
def lv2 : DiskSt := ⟨List.replicate (512 * 64) 0#8, pageM 1 lx1 8 0 ++ pageM 0 lx2 8 0, none⟩
theorem lv1_all : rtW lv0 64 (rtE 1#64) = (0, lv1) ∧ pgAt lv1 1 = lx1 := by
  rw [rtW_ok (rtE_ok (by decide)) (by decide)]
  obtain ⟨M, h1, h2, -, h4⟩ := sdSave_pg (D := lv0) (n := 64) (k := 1) (xs := lx1) rfl (by omega) lx1_page.1
  have hM : M = pageM 1 lx1 8 0 := h4 (fun j _ => rfl)
  subst hM
  exact ⟨h1, h2⟩
theorem lv2_all : rtW lv1 64 (rtE 2#64) = (0, lv2) ∧ pgAt lv2 0 = lx2 ∧ pgAt lv2 1 = lx1 := by
  rw [rtW_ok (rtE_ok (by decide)) (by decide)]
  obtain ⟨M, h1, h2, h3, h4⟩ := sdSave_pg (D := lv1) (n := 64) (k := 0) (xs := lx2) rfl (by omega) lx2_page.1
  have hM : M = lv1.M ++ pageM 0 lx2 8 0 := h4 (fun j hj => cget_none_of (fun p hp => by
    obtain ⟨i, h1, h2, h3⟩ := pageM_keys 1 lx1 8 0 p hp
    omega))
  subst hM
  exact ⟨h1, h2, (h3 1 (by omega)).trans lv1_all.2⟩
theorem lv_v1 : fdV lx1 1 64 (rtE 1#64) := ⟨lx1_page.2, by decide, by decide⟩
theorem lv_v2 : fdV lx2 0 64 (rtE 2#64) := ⟨lx2_page.2, by decide, by decide⟩
theorem lv2_find : rtFd lv2 64 = ((rtE 2#64, 0), lv2) := by
  rw [rtFd_clean rfl (by decide), lv2_all.2.1, lv2_all.2.2, fdPick_both lv_v2 lv_v1, if_pos (by decide)]
def lvC (keep : List Bool) (T Y : Int) : DiskSt := ⟨crashB (keptLen keep T Y) lv2.M lv2.b lv2.M.length, [], none⟩
theorem lv_zero (s : Nat) : fdS (rtR (List.replicate 4096 0#8)) s 64 = false := fdS_bad rtR_zeros
theorem lvC_none (h : lv2.ok 64) (hn : (lv2.M.map (·.1)).Nodup) : rtFd (lvC [] 0 0) 64 = ((rt0, 4), lvC [] 0 0) := by
  have hz : ∀ i, keptLen [] 0 0 i = 0 := fun i => by
    unfold keptLen
    split
    · rfl
    · simp
  have hp : ∀ k, k < 64 / 8 → pgAt (lvC [] 0 0) k = List.replicate 4096 0#8 := fun k hk => by
    rw [← pgAt_zero (n := 64) hk]
    exact pgAt_crash_other h.len h.M hn (keptLen_le _ _ _) (fun i p _ => .inr (hz i))
  rw [rtFd_clean rfl (by decide), hp 0 (by omega), hp 1 (by omega), fdPick_no (lv_zero 0) (lv_zero 1)]
theorem lvC_eight (h : lv2.ok 64) (hn : (lv2.M.map (·.1)).Nodup) : rtFd (lvC [true, true, true, true, true, true, true, true] (-1) 0) 64 = ((rtE 1#64, 0), lvC [true, true, true, true, true, true, true, true] (-1) 0) := by
  have hk : ∀ i, keptLen [true, true, true, true, true, true, true, true] (-1) 0 i = if i < 8 then 512 else 0 := fun i => by
    unfold keptLen
    rw [if_neg (by omega)]
    by_cases hi : i < 8
    · rw [if_pos hi]
      rcases (show i = 0 ∨ i = 1 ∨ i = 2 ∨ i = 3 ∨ i = 4 ∨ i = 5 ∨ i = 6 ∨ i = 7 by omega) with rfl | rfl | rfl | rfl | rfl | rfl | rfl | rfl <;> rfl
    · rw [if_neg hi, List.getD_eq_getElem?_getD, List.getElem?_eq_none (by simp; omega)]; rfl
  have h1 : pgAt (lvC [true, true, true, true, true, true, true, true] (-1) 0) 1 = lx1 :=
    pgAt_crash_kept (m := 0) h.len h.M hn (keptLen_le _ _ _) lx1_page.1 (fun j hj => by
      refine ⟨?_, by rw [hk, if_pos (by omega)]⟩
      show (pageM 1 lx1 8 0 ++ pageM 0 lx2 8 0)[0 + j]? = _
      rw [List.getElem?_append_left (by rw [pageM_len]; omega), pageM_get 1 lx1 8 0 (0 + j) (by omega), Nat.zero_add, Nat.zero_add])
  have h0 : pgAt (lvC [true, true, true, true, true, true, true, true] (-1) 0) 0 = List.replicate 4096 0#8 := by
    rw [← pgAt_zero (n := 64) (k := 0) (by omega)]
    refine pgAt_crash_other h.len h.M hn (keptLen_le _ _ _) (fun i p hp => ?_)
    by_cases hi : i < 8
    · left
      intro j hj
      have hp2 : (pageM 1 lx1 8 0 ++ pageM 0 lx2 8 0)[i]? = some p := hp
      rw [List.getElem?_append_left (by rw [pageM_len]; exact hi), pageM_get 1 lx1 8 0 i hi] at hp2
      cases hp2
      simp only
      omega
    · right; rw [hk, if_neg hi]
  rw [rtFd_clean rfl (by decide), h0, h1, fdPick_1 (lv_zero 0) lv_v1]
end Go.Proofs.Ytihljjfnjclefaa
/- root: two roots are compared. -/
set_option linter.unusedVariables false
set_option linter.unusedSimpArgs false
namespace Go.Proofs.Ytihljjfnjclefaa
open Go.ChangeShapes Go.WideShapes Go.ChangeAt Go.RowKit
set_option maxRecDepth 100000

theorem r4_under : Try.prog.underlying 27 = some (.array 4 26) := by kernel_rfl
theorem r4_size (w : World) : (sizeOf 26).run Try.prog w = .ok 1 w := by kernel_rfl
theorem r4_u64 : Try.prog.underlying 26 = some (.int .u64) := by kernel_rfl
theorem r4_part (a b c d : Value) (w : World) : (part 26 #[a, b, c, d] 0).run Try.prog w = .ok a w ∧ (part 26 #[a, b, c, d] 1).run Try.prog w = .ok b w ∧ (part 26 #[a, b, c, d] 2).run Try.prog w = .ok c w ∧ (part 26 #[a, b, c, d] 3).run Try.prog w = .ok d w :=
  ⟨by kernel_rfl, by kernel_rfl, by kernel_rfl, by kernel_rfl⟩
set_option maxHeartbeats 1000000 in
theorem arr4_eq (n : Nat) (a b c d a' b' c' d' : Int) (w : World) :
    (Op.equalIn (n + 1 + 1) 27 (.agg #[.int .u64 a, .int .u64 b, .int .u64 c, .int .u64 d]) (.agg #[.int .u64 a', .int .u64 b', .int .u64 c', .int .u64 d'])).run Try.prog w = .ok ((a == a') && (b == b') && (c == c') && (d == d')) w := by
  have p0 := fun w => (r4_part (.int .u64 a) (.int .u64 b) (.int .u64 c) (.int .u64 d) w).1
  have p1 := fun w => (r4_part (.int .u64 a) (.int .u64 b) (.int .u64 c) (.int .u64 d) w).2.1
  have p2 := fun w => (r4_part (.int .u64 a) (.int .u64 b) (.int .u64 c) (.int .u64 d) w).2.2.1
  have p3 := fun w => (r4_part (.int .u64 a) (.int .u64 b) (.int .u64 c) (.int .u64 d) w).2.2.2
  have q0 := fun w => (r4_part (.int .u64 a') (.int .u64 b') (.int .u64 c') (.int .u64 d') w).1
  have q1 := fun w => (r4_part (.int .u64 a') (.int .u64 b') (.int .u64 c') (.int .u64 d') w).2.1
  have q2 := fun w => (r4_part (.int .u64 a') (.int .u64 b') (.int .u64 c') (.int .u64 d') w).2.2.1
  have q3 := fun w => (r4_part (.int .u64 a') (.int .u64 b') (.int .u64 c') (.int .u64 d') w).2.2.2
  rw [Op.equalIn]
  simp only [Sem.run_bind, run_underlying r4_under, Result.andThen_ok, r4_size]
  rw [Std.Legacy.Range.forIn_eq_forIn_range']
  have hr : List.range' (0 : Nat) (([:4] : Std.Legacy.Range).size) 1 = [0, 1, 2, 3] := by decide
  simp only [show List.range' (([:4] : Std.Legacy.Range).start) (([:4] : Std.Legacy.Range).size) (([:4] : Std.Legacy.Range).step) = [0, 1, 2, 3] from by decide, List.forIn_cons, List.forIn_nil, Nat.zero_mul, Nat.one_mul, Nat.mul_one]
  simp only [Sem.run_bind, Result.andThen_ok, p0, p1, p2, p3, q0, q1, q2, q3, run_equalIn_int w n 26 .u64 .u64 _ _ r4_u64]
  cases h0 : (a == a')
  · simp [h0]
  · cases h1 : (b == b')
    · simp [h0, h1, p1, q1, run_equalIn_int w n 26 .u64 .u64 _ _ r4_u64]
    · cases h2 : (c == c')
      · simp [h0, h1, h2, p1, q1, p2, q2, run_equalIn_int w n 26 .u64 .u64 _ _ r4_u64]
      · cases h3 : (d == d') <;> simp [h0, h1, h2, h3, p1, q1, p2, q2, p3, q3, run_equalIn_int w n 26 .u64 .u64 _ _ r4_u64]
def rtC9 (a b c d e f g h i : Int) : Array Value := #[.int .u64 a, .int .u64 b, .int .u64 c, .int .u64 d, .int .u64 e, .int .u64 f, .int .u64 g, .int .u64 h, .int .u64 i]
theorem r9_part (a b c d e f g h i : Int) (w : World) : (part 26 (rtC9 a b c d e f g h i) 0).run Try.prog w = .ok (.int .u64 a) w ∧ (part 26 (rtC9 a b c d e f g h i) 1).run Try.prog w = .ok (.int .u64 b) w ∧ (part 26 (rtC9 a b c d e f g h i) 2).run Try.prog w = .ok (.int .u64 c) w ∧ (part 26 (rtC9 a b c d e f g h i) 3).run Try.prog w = .ok (.int .u64 d) w ∧ (part 26 (rtC9 a b c d e f g h i) 4).run Try.prog w = .ok (.int .u64 e) w ∧
    (part 27 (rtC9 a b c d e f g h i) 5).run Try.prog w = .ok (.agg #[.int .u64 f, .int .u64 g, .int .u64 h, .int .u64 i]) w :=
  ⟨by kernel_rfl, by kernel_rfl, by kernel_rfl, by kernel_rfl, by kernel_rfl, by kernel_rfl⟩
set_option maxHeartbeats 2000000 in
theorem r9_eql (a b c d e f g h i a' b' c' d' e' f' g' h' i' : Int) (w : World) :
    (Op.equalIn 10000 29 (.agg (rtC9 a b c d e f g h i)) (.agg (rtC9 a' b' c' d' e' f' g' h' i'))).run Try.prog w = .ok ((a == a') && (b == b') && (c == c') && (d == d') && (e == e') && ((f == f') && (g == g') && (h == h') && (i == i'))) w := by
  rw [run_equalIn_agg w 9999 29 _ _ (by kernel_rfl) (by kernel_rfl)]
  obtain ⟨p0, p1, p2, p3, p4, p5⟩ := r9_part a b c d e f g h i w
  obtain ⟨q0, q1, q2, q3, q4, q5⟩ := r9_part a' b' c' d' e' f' g' h' i' w
  generalize rtC9 a b c d e f g h i = xs at *
  generalize rtC9 a' b' c' d' e' f' g' h' i' = ys at *
  simp only [Program.fieldsOf, Try.underlying29, Op.eqFields, Sem.run_bind, Sem.run_ite]
  have e64 := fun x y => run_equalIn_int (P := Try.prog) w 9998 26 .u64 .u64 x y r4_u64
  have e4 := arr4_eq 9997 f g h i f' g' h' i' w
  simp [p0, p1, p2, p3, p4, p5, q0, q1, q2, q3, q4, q5, e64, e4]
  by_cases ka : a = a'
  rotate_left
  · simp [ka]
  subst ka
  by_cases kb : b = b'
  rotate_left
  · simp [kb]
  subst kb
  by_cases kc : c = c'
  rotate_left
  · simp [kc]
  subst kc
  by_cases kd : d = d'
  rotate_left
  · simp [kd]
  subst kd
  by_cases ke : e = e'
  rotate_left
  · simp [ke]
  subst ke
  by_cases kf : f = f'
  rotate_left
  · simp [kf]
  subst kf
  by_cases kg : g = g'
  rotate_left
  · simp [kg]
  subst kg
  by_cases kh : h = h'
  rotate_left
  · simp [kh]
  subst kh
  by_cases ki : i = i'
  rotate_left
  · simp [ki]
  subst ki
  simp
theorem rtEq_int (a b : Rt) : ((nb a.E == nb b.E) && (nb a.P == nb b.P) && (nb a.T == nb b.T) && (nb a.S == nb b.S) && (nb a.L == nb b.L) && ((nb a.a == nb b.a) && (nb a.b == nb b.b) && (nb a.c == nb b.c) && (nb a.d == nb b.d))) = rtEq a b := by
  unfold rtEq
  simp only [nb_beq]
  rfl
/-- '==' and '!=' of two roots. -/
theorem rt_eql (a b : Rt) (w : World) : (binOp .eql 29 (.agg #[.int .u64 (nb a.E), .int .u64 (nb a.P), .int .u64 (nb a.T), .int .u64 (nb a.S), .int .u64 (nb a.L), .int .u64 (nb a.a), .int .u64 (nb a.b), .int .u64 (nb a.c), .int .u64 (nb a.d)]) (.agg #[.int .u64 (nb b.E), .int .u64 (nb b.P), .int .u64 (nb b.T), .int .u64 (nb b.S), .int .u64 (nb b.L), .int .u64 (nb b.a), .int .u64 (nb b.b), .int .u64 (nb b.c), .int .u64 (nb b.d)])).run Try.prog w = .ok (.bool (rtEq a b)) w := by
  rw [run_eql_struct]
  have h := r9_eql (nb a.E) (nb a.P) (nb a.T) (nb a.S) (nb a.L) (nb a.a) (nb a.b) (nb a.c) (nb a.d) (nb b.E) (nb b.P) (nb b.T) (nb b.S) (nb b.L) (nb b.a) (nb b.b) (nb b.c) (nb b.d) w
  rw [rtEq_int] at h
  unfold rtC9 at h
  rw [h]; rfl
theorem rt_neq (a b : Rt) (w : World) : (binOp .neq 29 (.agg #[.int .u64 (nb a.E), .int .u64 (nb a.P), .int .u64 (nb a.T), .int .u64 (nb a.S), .int .u64 (nb a.L), .int .u64 (nb a.a), .int .u64 (nb a.b), .int .u64 (nb a.c), .int .u64 (nb a.d)]) (.agg #[.int .u64 (nb b.E), .int .u64 (nb b.P), .int .u64 (nb b.T), .int .u64 (nb b.S), .int .u64 (nb b.L), .int .u64 (nb b.a), .int .u64 (nb b.b), .int .u64 (nb b.c), .int .u64 (nb b.d)])).run Try.prog w = .ok (.bool (!rtEq a b)) w := by
  rw [run_neq_struct]
  have h := r9_eql (nb a.E) (nb a.P) (nb a.T) (nb a.S) (nb a.L) (nb a.a) (nb a.b) (nb a.c) (nb a.d) (nb b.E) (nb b.P) (nb b.T) (nb b.S) (nb b.L) (nb b.a) (nb b.b) (nb b.c) (nb b.d) w
  rw [rtEq_int] at h
  unfold rtC9 at h
  rw [h]; rfl
theorem rt_eqGuard (op : BinOp) (x y : Operand) (xs ys : Array Value) (w : World) : (eqGuard op 29 x y (.agg xs) (.agg ys)).run Try.prog w = .ok () w := run_eqGuard_agg w op _ x y xs ys (by kernel_rfl)
end Go.Proofs.Ytihljjfnjclefaa
