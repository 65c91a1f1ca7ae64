/- Bytes copied into a row of the call's own. -/
import Derived.Test.YtihljjfnjclefaaDoorM
import Derived.Test.YtihljjfnjclefaaDoorMk
import Derived.Test.YtihljjfnjclefaaDoorTs
import Derived.Test.YtihljjfnjclefaaDoorSchB
import Derived.Laws.CopyOwn
set_option linter.unusedVariables false
set_option linter.unusedSimpArgs false
namespace Go.Proofs.YtihljjfnjclefaaDoor
open Go.ChangeShapes Go.WideShapes Go.ChangeAt Go.RowKit

theorem cp_len {b xs : List Byte} {off : Nat} (h : off + xs.length ≤ b.length) : (splice b off xs).length = b.length := length_splice b off xs h
theorem cp_take {α : Type} (L cs : List α) (off n : Nat) (h : off + cs.length ≤ n) (hL : off ≤ L.length) : (L.take off ++ cs ++ L.drop (off + cs.length)).take n = (L.take n).take off ++ (cs ++ (L.take n).drop (off + cs.length)) := by
  have h1 : (L.take off).length = off := by rw [List.length_take]; omega
  rw [List.append_assoc, List.take_append, List.take_append, h1, List.take_of_length_le (by omega : (L.take off).length ≤ n), List.take_of_length_le (by omega : cs.length ≤ n - off), List.take_take, Nat.min_eq_left (by omega), List.drop_take]
  congr 3
  omega
theorem cp_vbs (b xs : List Byte) (off : Nat) : vbs (splice b off xs) = (vbs b).take off ++ (vbs xs ++ (vbs b).drop (off + xs.length)) := by
  unfold splice
  rw [vbs_append, vbs_append, vbs_take, vbs_drop]
theorem TB.cp (g : Nat) (w : World) (cs : Array Value) : TB g w (w.setRow g cs) := ⟨rfl, rfl, rfl, by simp, fun k _ hk => setRow_other w g k cs (fun e => hk (by simp [e]))⟩
theorem cp_run {w : World} {base gb m c : Nat} {b : List Byte} (ho : Own w base (.slice (some ⟨gb, 0, none⟩) m c) b) (off d e : Nat) (A : Option Addr) (ca : Nat) (xs : List Byte) (hr : Rd w A xs) (hx : xs.length ≤ d) (hfit : off + xs.length ≤ b.length) :
    ∃ w', (∀ ty, (Builtin.copy_ #[23, 23] ty #[.slice (some ⟨gb, off, none⟩) d e, .slice A xs.length ca]).run Tryd.prog w = .ok (goInt xs.length) w') ∧ Own w' base (.slice (some ⟨gb, 0, none⟩) m c) (splice b off xs) ∧ TB gb w w' := by
  obtain ⟨i, hi, _, hsz, _⟩ := info_parts info_u8
  have hsz1 : (Tryd.prog.info? 5).map (·.size) = some 1 := by rw [hi]; simp [hsz]
  by_cases h0 : xs.length = 0
  · obtain rfl : xs = [] := List.eq_nil_of_length_eq_zero h0
    refine ⟨w, fun ty => run_copy_none (P := Tryd.prog) w _ _ ty _ _ _ _ _ _ _ Tryd.underlying23 hsz1 (by simp), ?_, TB.refl _ _⟩
    have : splice b off [] = b := by simp [splice]
    rw [this]; exact ho
  · obtain ⟨b0, o0, rfl, hb0, hcell⟩ := hr.form (by omega)
    have hO := ho
    unfold Own OwnV at ho
    rcases ho with ⟨l1, ⟨l2, -⟩ | ⟨g, cap, cur, l3, l4, l5, l6, l7, l8, l9⟩⟩
    · cases l2
    · simp only [Value.slice.injEq, Option.some.injEq, Addr.mk.injEq] at l3
      obtain ⟨⟨rfl, -, -⟩, hm, rfl⟩ := l3
      rw [vbs_length] at l1 l6 l9 hm
      rw [Nat.mul_one] at l1 l8 l9
      have hcl : b.length ≤ cur.size := by omega
      have hrun := fun ty => run_copy_row (P := Tryd.prog) w 23 23 ty 5 gb off d e ⟨b0, o0, none⟩ xs.length ca cur 5 (vbs xs) Tryd.underlying23 hsz1 l5 (by rw [vbs_length]; exact (Nat.min_eq_left hx).symm) (fun j v hj => by
        have hjl : j < xs.length := by
          have := (List.getElem?_eq_some_iff.1 hj).1
          rwa [vbs_length] at this
        have : (⟨b0, o0, none⟩ : Addr).add j = ⟨b0, o0 + j, none⟩ := by unfold Addr.add; split <;> simp_all
        rw [this, hcell j hjl]
        rw [vbs_get? xs j hjl] at hj
        exact hj) (by rw [vbs_length]; omega) (vbs_oneCell xs)
      simp only [vbs_length] at hrun
      refine ⟨_, hrun, ?_, TB.cp _ _ _⟩
      have hrow := setRow_heap w gb cur (cur.toList.take off ++ vbs xs ++ cur.toList.drop (off + xs.length)).toArray _ _ l5
      unfold Own OwnV
      rw [vbs_length, cp_len hfit]
      refine ⟨by rw [vbs_length, cp_len hfit]; omega, .inr ⟨gb, c, _, by rw [hm], l4, hrow, by omega, l7, ?_, ?_⟩⟩
      · simp only [List.size_toArray, List.length_append, List.length_take, List.length_drop, vbs_length, Array.length_toList]
        omega
      · have hst := cp_take cur.toList (vbs xs) off b.length (by rw [vbs_length]; exact hfit) (by rw [Array.length_toList]; omega)
        rw [vbs_length] at hst
        rw [Nat.mul_one]
        rw [hst, l9, cp_vbs]
/-- 'copy(x, y)' at the operation; as a step of a region that draws. -/
theorem cp_list {P : Program} {ops : Array Oper} {rest : List Oper} {o : Oper} {a : Act} {w : World} {Q : Exit → Act → World → Prop} (hgd : o.guard = none) (x y : Operand) (t t' : TypeId)
    (ho : o.op = .call { callee := .builtin .copy, args := #[x, y], argTypes := #[t, t'] }) (v u : Value) (hx : a.eval x = v) (hy : a.eval y = u) {v' : Value} {w' : World}
    (hr : ∀ ty, (Builtin.copy_ #[t, t'] ty #[v, u]).run P w = .ok v' w') (h : wpList P ops Q rest (a.put o.dst v') w') : wpList P ops Q (o :: rest) a w :=
  wpList_plain hgd fun _ hK => by
    unfold Oper.wp execOp
    simp only [ho, resolve, invoke, builtin, Sem.run_bind, Sem.run_pure, Result.andThen_ok, List.map_toArray, List.map_cons, List.map_nil, hx, hy, hr]
    exact hK _ _ h
theorem cp_sch {P : Program} {ops : Array Oper} {Q : Exit → Act → World → Prop} {E : World → World → Prop} {i : Nat} {σ : List (Nat × Bool)} {o : Oper} {a : Act} {w w' : World} (hi : ops[i]? = some o) (hw : Region.wanted o (yielded ops a.tmps) = true)
    (x y : Operand) (t t' : TypeId) (ho : o.op = .call { callee := .builtin .copy, args := #[x, y], argTypes := #[t, t'] }) (v u : Value) (hx : a.eval x = v) (hy : a.eval y = u) {v' : Value}
    (hr : ∀ ty, (Builtin.copy_ #[t, t'] ty #[v, u]).run P w = .ok v' w') (hE : E w w') (h : wpSch P ops Q E σ (a.put o.dst v') w') : wpSch P ops Q E ((i, false) :: σ) a w :=
  sch_eff hi hw fun K hK => by
    unfold Oper.wp execOp
    simp only [ho, resolve, invoke, builtin, Sem.run_bind, Sem.run_pure, Result.andThen_ok, List.map_toArray, List.map_cons, List.map_nil, hx, hy, hr]
    exact hK _ _ hE h
end Go.Proofs.YtihljjfnjclefaaDoor
