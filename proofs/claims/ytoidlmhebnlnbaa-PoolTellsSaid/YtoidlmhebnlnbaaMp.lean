/- A map whose keys are ints, as the heap holds it: look-up, store, clear. -/
import Derived.Test.YtoidlmhebnlnbaaTb
import Derived.MapKept
import Derived.ChangeMaps4
set_option linter.unusedVariables false
set_option linter.unusedSimpArgs false
namespace Go.Proofs.Ytoidlmhebnlnbaa
open Go.ChangeShapes Go.WideShapes Go.ChangeAt Go.RowKit Go.MapKept

def mget : List (Int × Value) → Int → Option Value
  | [], _ => none
  | (k', v) :: M, k => if k' = k then some v else mget M k
def mput : List (Int × Value) → Int → Value → List (Int × Value)
  | [], k, v => [(k, v)]
  | (k', v') :: M, k, v => if k' = k then (k, v) :: M else (k', v') :: mput M k v
/-- Block m is a map with these entries. -/
def MapAt (w : World) (m : Nat) (M : List (Int × Value)) : Prop :=
  ∃ es clock, w.heap[m]? = some (.map es clock) ∧ es.toList.map (fun e => (e.key, e.val)) = M.map (fun p => (Value.int .i64 p.1, p.2)) ∧ (∀ e ∈ es.toList, e.born < clock) ∧ (es.toList.map (·.born)).Nodup ∧ (M.map (·.1)).Nodup
theorem MapAt.lt {w : World} {m : Nat} {M : List (Int × Value)} (h : MapAt w m M) : m < w.heap.size := by
  obtain ⟨es, clock, h1, -⟩ := h
  exact (Array.getElem?_eq_some_iff.1 h1).1
theorem MapAt.block {w w' : World} {m : Nat} {M : List (Int × Value)} (h : MapAt w m M) (hb : w'.heap[m]? = w.heap[m]?) : MapAt w' m M := by
  obtain ⟨es, clock, h1, h2⟩ := h
  exact ⟨es, clock, hb.trans h1, h2⟩
theorem MapAt.new (w : World) : MapAt (w.alloc (.map #[] 0)) w.heap.size [] := ⟨#[], 0, heap_alloc_new _ _, rfl, by simp, by simp, by simp⟩
theorem isKey_all {es : List MapEntry} {M : List (Int × Value)} (h : es.map (fun e => (e.key, e.val)) = M.map (fun p => (Value.int .i64 p.1, p.2))) : ∀ x ∈ es, IsKey (.int .i64) x.key := by
  intro x hx
  have : (x.key, x.val) ∈ M.map (fun p => (Value.int .i64 p.1, p.2)) := by rw [← h]; exact List.mem_map.2 ⟨x, hx, rfl⟩
  obtain ⟨p, -, hp⟩ := List.mem_map.1 this
  simp only [Prod.mk.injEq] at hp
  rw [← hp.1]; rfl
theorem mget_none {es : List MapEntry} {k : Int} : ∀ {M : List (Int × Value)}, es.map (fun e => (e.key, e.val)) = M.map (fun p => (Value.int .i64 p.1, p.2)) → (∀ x ∈ es, x.key ≠ .int .i64 k) → mget M k = none ∧ ∀ v, mput M k v = M ++ [(k, v)] := by
  induction es with
  | nil => intro M h _; cases M with
    | nil => exact ⟨rfl, fun v => rfl⟩
    | cons p M => simp at h
  | cons e es ih => intro M h hne; cases M with
    | nil => simp at h
    | cons p M =>
      simp only [List.map_cons, List.cons.injEq, Prod.mk.injEq] at h
      obtain ⟨⟨hk, hv⟩, ht⟩ := h
      have h1 := ih ht (fun x hx => hne x (List.mem_cons_of_mem _ hx))
      have h0 : p.1 ≠ k := fun e0 => hne e (List.mem_cons_self) (by rw [hk, e0])
      obtain ⟨pk, pv⟩ := p
      exact ⟨by rw [mget, if_neg h0]; exact h1.1, fun v => by rw [mput, if_neg h0, h1.2]; rfl⟩
theorem mget_some {es : List MapEntry} {k : Int} {e0 : MapEntry} : ∀ {j : Nat} {M : List (Int × Value)}, es.map (fun e => (e.key, e.val)) = M.map (fun p => (Value.int .i64 p.1, p.2)) → (M.map (·.1)).Nodup → es[j]? = some e0 → e0.key = .int .i64 k →
    mget M k = some e0.val ∧ ∀ v, (es.modify j fun e => { e with key := .int .i64 k, val := v }).map (fun e => (e.key, e.val)) = (mput M k v).map (fun p => (Value.int .i64 p.1, p.2)) := by
  induction es with
  | nil => intro j M h hn hj; simp at hj
  | cons e es ih => intro j M h hn hj hk; cases M with
    | nil => simp at h
    | cons p M =>
      obtain ⟨pk, pv⟩ := p
      simp only [List.map_cons, List.cons.injEq, Prod.mk.injEq, List.nodup_cons] at h hn
      obtain ⟨⟨hk1, hv1⟩, ht⟩ := h
      cases j with
      | zero =>
        simp only [List.getElem?_cons_zero, Option.some.injEq] at hj
        subst hj
        have : pk = k := by rw [hk] at hk1; cases hk1; rfl
        subst this
        refine ⟨by rw [mget, if_pos rfl, hv1], fun v => ?_⟩
        rw [mput, if_pos rfl]
        simp [ht]
      | succ j =>
        simp only [List.getElem?_cons_succ] at hj
        have h1 := ih ht hn.2 hj hk
        have h0 : pk ≠ k := by
          intro e0'
          have : (e0.key, e0.val) ∈ M.map (fun p => (Value.int .i64 p.1, p.2)) := by rw [← ht]; exact List.mem_map.2 ⟨e0, List.mem_of_getElem? hj, rfl⟩
          obtain ⟨q, hq, hq2⟩ := List.mem_map.1 this
          simp only [Prod.mk.injEq] at hq2
          rw [hk] at hq2
          injection hq2.1 with _ e1
          exact hn.1 (List.mem_map.2 ⟨q, hq, by rw [e1, e0']⟩)
        refine ⟨by rw [mget, if_neg h0]; exact h1.1, fun v => ?_⟩
        rw [mput, if_neg h0]
        simp only [List.modify_succ_cons, List.map_cons, List.cons.injEq, Prod.mk.injEq]
        exact ⟨⟨hk1, hv1⟩, h1.2 v⟩
section
variable {P : Program} {t k e : TypeId} (ht : P.underlying t = some (.map k e)) (hk : P.underlying k = some (.int .i64))
include ht hk
theorem map_lookup {w : World} {m : Nat} {M : List (Int × Value)} {z : Value} (h : MapAt w m M) (x : Int) (ok : Bool) (hz : (zeroValue e).run P w = .ok z w) :
    (Instr.lookup t (.map (some m)) (.int .i64 x) ok).run P w = .ok (if ok then .tuple #[(mget M x).getD z, .bool (mget M x).isSome] else (mget M x).getD z) w := by
  obtain ⟨es, clock, h1, h2, h3, h4, h5⟩ := h
  have hkey : IsKey (.int .i64) (.int .i64 x) := rfl
  rcases findNow_spec hkey es.toList 0 (isKey_all h2) with ⟨f1, f2⟩ | ⟨j, e0, f1, f2, f3⟩
  · have hm := (mget_none h2 f2).1
    rw [hm]
    cases ok <;> simp [Instr.lookup, run_underlying ht, MapKept.run_getObj_map h1, run_checkKey hk hkey, run_findKey hk f1, hz, Result.andThen]
  · have hm := (mget_some h2 h5 f2 f3).1
    rw [hm]
    cases ok <;> simp [Instr.lookup, run_underlying ht, MapKept.run_getObj_map h1, run_checkKey hk hkey, run_findKey hk f1, Result.andThen]
theorem map_update {w : World} {m : Nat} {M : List (Int × Value)} (h : MapAt w m M) (x : Int) (v : Value) :
    ∃ w', (Instr.mapUpdate t (.map (some m)) (.int .i64 x) v).run P w = .ok () w' ∧ MapAt w' m (mput M x v) ∧ TB m w w' := by
  obtain ⟨es, clock, h1, h2, h3, h4, h5⟩ := h
  have hkey : IsKey (.int .i64) (.int .i64 x) := rfl
  have htb : ∀ o, TB m w { w with heap := w.heap.setIfInBounds m o } := fun o => ⟨rfl, rfl, rfl, by simp, fun k _ hk => by simp [show ¬ m = k from fun e => hk (by simp [e])]⟩
  have hlt := (Array.getElem?_eq_some_iff.1 h1).1
  rcases findNow_spec hkey es.toList 0 (isKey_all h2) with ⟨f1, f2⟩ | ⟨j, e0, f1, f2, f3⟩
  · have hm := (mget_none h2 f2).2 v
    have hm0 := (mget_none h2 f2).1
    refine ⟨_, by simp [Instr.mapUpdate, run_underlying ht, MapKept.run_getObj_map h1, run_checkKey hk hkey, run_findKey hk f1, MapKept.run_setObj_map _ h1, Result.andThen]; rfl, ⟨es.push ⟨.int .i64 x, v, clock⟩, clock + 1, by simp [hlt], ?_, ?_, ?_, ?_⟩, htb _⟩
    · rw [hm]; simp [h2]
    · intro e he
      simp only [Array.toList_push, List.mem_append, List.mem_singleton] at he
      rcases he with he | rfl
      · have := h3 e he; omega
      · simp
    · rw [Array.toList_push, List.map_append, List.nodup_append]
      refine ⟨h4, by simp, ?_⟩
      intro a ha b hb
      obtain ⟨e, he, rfl⟩ := List.mem_map.1 ha
      simp only [List.map_cons, List.map_nil, List.mem_singleton] at hb
      have := h3 e he
      omega
    · rw [hm, List.map_append, List.nodup_append]
      refine ⟨h5, by simp, ?_⟩
      intro a ha b hb
      simp only [List.map_cons, List.map_nil, List.mem_singleton] at hb
      subst hb
      rintro rfl
      obtain ⟨p, hp, hp1⟩ := List.mem_map.1 ha
      have : (Value.int .i64 p.1, p.2) ∈ es.toList.map (fun e => (e.key, e.val)) := by rw [h2]; exact List.mem_map.2 ⟨p, hp, rfl⟩
      obtain ⟨e, he, he2⟩ := List.mem_map.1 this
      simp only [Prod.mk.injEq] at he2
      exact f2 e he (by rw [he2.1, hp1])
  · have hm := (mget_some h2 h5 f2 f3).2 v
    have hj : es[j]? = some e0 := by simpa using f2
    refine ⟨_, by simp [Instr.mapUpdate, run_underlying ht, MapKept.run_getObj_map h1, run_checkKey hk hkey, run_findKey hk f1, hj, f3, run_keyThatStays hkey, MapKept.run_setObj_map _ h1, Result.andThen]; rfl, ⟨es.modify j (fun e' => { e' with key := .int .i64 x, val := v }), clock, by simp [hlt], ?_, ?_, ?_, ?_⟩, htb _⟩
    · rw [← hm, Array.toList_modify]
    · intro e he
      rcases MapFrom.mem_modify he with he | ⟨e', he', rfl⟩
      · exact h3 e he
      · exact h3 e' (List.mem_of_getElem? (by simpa using he'))
    · have : (es.modify j (fun e' => { e' with key := .int .i64 x, val := v })).toList.map (·.born) = es.toList.map (·.born) := by
        rw [Array.toList_modify]
        apply List.ext_getElem?
        intro i
        simp only [List.getElem?_map, List.getElem?_modify]
        split
        · cases es.toList[i]? <;> rfl
        · simp
      rw [this]; exact h4
    · have : (mput M x v).map (·.1) = M.map (·.1) := by
        have hs := (mget_some h2 h5 f2 f3).1
        clear hm h2 h5 htb
        revert hs
        generalize e0.val = q
        induction M with
        | nil => intro hs; cases hs
        | cons p M ih =>
          obtain ⟨pk, pv⟩ := p
          intro hs
          rw [mget] at hs
          rw [mput]
          by_cases h0 : pk = x
          · rw [if_pos h0]; simp [h0]
          · rw [if_neg h0] at hs ⊢
            simp [ih hs]
      rw [this]; exact h5
end
theorem map_clear {P : Program} {t k e : TypeId} (ht : P.underlying t = some (.map k e)) {w : World} {m : Nat} {M : List (Int × Value)} (h : MapAt w m M) (ty : TypeId) :
    ∃ w', (Builtin.clear_ #[t] ty #[.map (some m)]).run P w = .ok (.tuple #[]) w' ∧ MapAt w' m [] ∧ TB m w w' := by
  obtain ⟨es, clock, h1, h2, h3, h4, h5⟩ := h
  have hlt := (Array.getElem?_eq_some_iff.1 h1).1
  refine ⟨{ w with heap := w.heap.setIfInBounds m (.map #[] clock) }, by simp [Builtin.clear_, run_underlying ht, MapKept.run_getObj_map h1, MapKept.run_setObj_map _ h1, Result.andThen], ⟨#[], clock, by simp [hlt], rfl, by simp, by simp, by simp⟩, ⟨rfl, rfl, rfl, by simp, fun k _ hk => by simp [show ¬ m = k from fun e => hk (by simp [e])]⟩⟩
end Go.Proofs.Ytoidlmhebnlnbaa
