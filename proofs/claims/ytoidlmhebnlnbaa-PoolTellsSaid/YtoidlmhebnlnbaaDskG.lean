/- A disk: the cache made empty; the walk through Crash. -/
import Derived.Test.YtoidlmhebnlnbaaDskF
import Derived.Test.YtoidlmhebnlnbaaSched
set_option linter.unusedVariables false
set_option linter.unusedSimpArgs false
namespace Go.Proofs.Ytoidlmhebnlnbaa
open Go.ChangeShapes Go.WideShapes Go.ChangeAt Go.RowKit Go.MapKept

/-- 'clear(m)' at the operation. -/
theorem wpList_clear_run {P : Program} {ops : Array Oper} {rest : List Oper} {o : Oper} {a : Act} {w : World} {Q : Exit → Act → World → Prop} (hgd : o.guard = none) (x : Operand) (t : TypeId)
    (ho : o.op = .call { callee := .builtin .clear, args := #[x], argTypes := #[t] }) (v : Value) (hx : a.eval x = v) {v' : Value} {w' : World}
    (hr : (Builtin.clear_ #[t] o.type #[v]).run P w = .ok v' w') (h : wpList P ops Q rest (a.put o.dst v') w') : wpList P ops Q (o :: rest) a w :=
  wpList_plain hgd fun _ hK => by
    unfold Oper.wp execOp
    simp only [ho, resolve, invoke, builtin, Sem.run_bind, Sem.run_pure, Result.andThen_ok, List.map_toArray, List.map_cons, List.map_nil, hx, hr]
    exact hK _ _ h
/-- The cache made empty, and the order. -/
theorem DskC.cleared {w w' : World} {F : List Nat} {g n gb c gm : Nat} {O : Option Addr} {oc : Nat} {L : Option Nat} {V : List (Int × Value)} {D : DiskSt} {ord : List Int} (h : DskC w F g n gb c gm O oc L V D ord) (hok : D.ok n) (hm : MapAt w' gm []) (htb : TB gm w w') :
    w'.heap[g]? = some (.cells #[.slice (some ⟨gb, 0, none⟩) (512 * n) c, .map (some gm), .slice O ord.length oc, .pointer (L.map fun l => ⟨l, 0, none⟩)] 71 (0, 0)) ∧
    Dsk (w'.setCell ⟨g, 2, none⟩ (.slice none 0 0)) F g n { D with M := [] } ∧ TS F w (w'.setCell ⟨g, 2, none⟩ (.slice none 0 0)) := by
  have hnd := h.nodup
  unfold dctl at hnd
  have hts : TS [gm] w w' := TS.tb htb (by simp)
  have hset : TS [g] w' (w'.setCell ⟨g, 2, none⟩ (.slice none 0 0)) := TS.tb (TB.set w' 2 _) (by simp)
  have hgm : g ≠ gm := fun e => by simp [e] at hnd
  have hrow : w'.heap[g]? = _ := (hts.block g (Array.getElem?_eq_some_iff.1 h.row).1 (by simpa using hgm)).trans h.row
  have hts2 : TS [g, gm] w (w'.setCell ⟨g, 2, none⟩ (.slice none 0 0)) := ⟨hset.os.trans hts.os, hset.tape.trans hts.tape, hset.output.trans hts.output, Nat.le_trans hts.size hset.size, fun x hx hn => (hset.block x (Nat.lt_of_lt_of_le hx hts.size) (fun e => hn (by simp at e; simp [e]))).trans (hts.block x hx (fun e => hn (by simp at e; simp [e])))⟩
  have hx1 : ∀ x ∈ [gb] ++ L.toList, x ∉ [g, gm] := by
    intro x hx hm
    simp only [List.cons_append, List.nil_append, List.nodup_cons, List.mem_cons, List.mem_append, not_or] at hnd
    obtain ⟨⟨a1, a2, a3, a4⟩, ⟨b1, b2, b3⟩, ⟨c1, c2⟩, d⟩ := hnd
    simp at hx hm
    rcases hx with rfl | hx
    · rcases hm with rfl | rfl
      · exact a1 rfl
      · exact b1 rfl
    · rcases hm with rfl | rfl
      · exact a4 (by simpa using hx)
      · exact c2 (by simpa using hx)
  refine ⟨hrow, ⟨gb, c, gm, none, 0, L, [], ?_, hts2.ownV h.bytes (fun b hb => by cases hb; exact hx1 gb (by simp)), hm.ts hset (by simpa using hgm.symm), .nil, OwnV.nil _ _ _, ?_, ?_, ?_, ⟨hok.len, hok.n1, hok.n2, by simp, hok.f⟩, fun x hx => Nat.lt_of_lt_of_le (h.lt x hx) hts2.size⟩, ?_⟩
  · rw [heap_setCell_same _ _ _ _ _ _ hrow]; rfl
  · have h6 := h.fuse
    unfold FuseAt at *
    simp only
    revert h6
    generalize D.fuse = fz
    intro h6
    cases L with
    | none => cases fz with
      | none => trivial
      | some z => exact h6
    | some l => cases fz with
      | none => exact h6
      | some z =>
        simp only at h6 ⊢
        rw [hts2.block l (Array.getElem?_eq_some_iff.1 h6).1 (hx1 l (by simp))]; exact h6
  · have hsub : ([g, gb, gm] ++ (optBlk none ++ L.toList)).Sublist ([g, gb, gm] ++ (optBlk O ++ L.toList)) := List.Sublist.append_left (List.sublist_append_right _ _) _
    exact hnd.sublist hsub
  · intro x hx
    refine h.mem x ?_
    simp only [optBlk, Option.toList_none, List.map_nil, List.nil_append, List.mem_append] at hx
    simp only [dctl, List.mem_append]
    rcases hx with hx | hx
    · exact .inl hx
    · exact .inr (.inr hx)
  · exact ⟨hts2.os, hts2.tape, hts2.output, hts2.size, fun x hx hn => hts2.block x hx (fun e => hn (by
      simp at e
      rcases e with rfl | rfl
      · exact h.mem _ (by simp [dctl])
      · exact h.mem _ (by simp [dctl])))⟩
/-- How many bytes of the i-th cached sector a crash leaves. -/
def keptLen (keep : List Bool) (torn bytes : Int) (i : Nat) : Nat := if (i : Int) = torn ∧ 0 ≤ bytes ∧ bytes ≤ 512 then bytes.toNat else if keep.getD i false then 512 else 0
/-- The bytes when j cached sectors have been gone through. -/
def crashB (f : Nat → Nat) (M : List (Int × List Byte)) (b : List Byte) : Nat → List Byte
  | 0 => b
  | j + 1 => match M[j]? with
    | some p => splice (crashB f M b j) (512 * p.1.toNat) (p.2.take (f j))
    | none => crashB f M b j
theorem crashB_len {f : Nat → Nat} {M : List (Int × List Byte)} {b : List Byte} {n : Nat} (hb : b.length = 512 * n) (hM : ∀ p ∈ M, 0 ≤ p.1 ∧ p.1 < n ∧ p.2.length = 512) : ∀ j, (crashB f M b j).length = 512 * n
  | 0 => hb
  | j + 1 => by
    rw [crashB]
    cases hj : M[j]? with
    | none => exact crashB_len hb hM j
    | some p =>
      have := hM p (List.mem_of_getElem? hj)
      have ih := crashB_len (f := f) hb hM j
      simp only
      rw [splice_len (by rw [List.length_take, ih]; omega), ih]
/-- 'copy(x, y)' at the operation; as a step of a region that draws. -/
theorem wpList_copy_by {P : Program} {ops : Array Oper} {rest : List Oper} {o : Oper} {a : Act} {w : World} {Q : Exit → Act → World → Prop} (hgd : o.guard = none) (x y : Operand) (t t' : TypeId)
    (ho : o.op = .call { callee := .builtin .copy, args := #[x, y], argTypes := #[t, t'] }) (v u : Value) (hx : a.eval x = v) (hy : a.eval y = u) {v' : Value} {w' : World}
    (hr : ∀ ty, (Builtin.copy_ #[t, t'] ty #[v, u]).run P w = .ok v' w') (h : wpList P ops Q rest (a.put o.dst v') w') : wpList P ops Q (o :: rest) a w :=
  wpList_plain hgd fun _ hK => by
    unfold Oper.wp execOp
    simp only [ho, resolve, invoke, builtin, Sem.run_bind, Sem.run_pure, Result.andThen_ok, List.map_toArray, List.map_cons, List.map_nil, hx, hy, hr]
    exact hK _ _ h
theorem sch_copy {P : Program} {ops : Array Oper} {Q : Exit → Act → World → Prop} {E : World → World → Prop} {i : Nat} {σ : List (Nat × Bool)} {o : Oper} {a : Act} {w w' : World} (hi : ops[i]? = some o) (hw : Region.wanted o (yielded ops a.tmps) = true)
    (x y : Operand) (t t' : TypeId) (ho : o.op = .call { callee := .builtin .copy, args := #[x, y], argTypes := #[t, t'] }) (v u : Value) (hx : a.eval x = v) (hy : a.eval y = u) {v' : Value}
    (hr : ∀ ty, (Builtin.copy_ #[t, t'] ty #[v, u]).run P w = .ok v' w') (hE : E w w') (h : wpSch P ops Q E σ (a.put o.dst v') w') : wpSch P ops Q E ((i, false) :: σ) a w :=
  sch_eff hi hw fun K hK => by
    unfold Oper.wp execOp
    simp only [ho, resolve, invoke, builtin, Sem.run_bind, Sem.run_pure, Result.andThen_ok, List.map_toArray, List.map_cons, List.map_nil, hx, hy, hr]
    exact hK _ _ hE h
theorem cget_at : ∀ {M : List (Int × List Byte)} {j : Nat} {p : Int × List Byte}, (M.map (·.1)).Nodup → M[j]? = some p → cget M p.1 = some p.2
  | [], j, p, _, h => by simp at h
  | (k', v) :: M, 0, p, _, h => by
    simp only [List.getElem?_cons_zero, Option.some.injEq] at h
    subst h
    rw [cget, if_pos rfl]
  | (k', v) :: M, j + 1, p, hn, h => by
    simp only [List.getElem?_cons_succ] at h
    simp only [List.map_cons, List.nodup_cons] at hn
    rw [cget, if_neg (fun e => hn.1 (by rw [e]; exact List.mem_map.2 ⟨p, List.mem_of_getElem? h, rfl⟩))]
    exact cget_at hn.2 h
theorem DskC.nodupM {w : World} {F : List Nat} {g n gb c gm : Nat} {O : Option Addr} {oc : Nat} {L : Option Nat} {V : List (Int × Value)} {D : DiskSt} {ord : List Int} (h : DskC w F g n gb c gm O oc L V D ord) : (D.M.map (·.1)).Nodup := by
  obtain ⟨es, clock, m1, m2, m3, m4, m5⟩ := h.map
  rw [← h.vals.keys]; exact m5
theorem Dsk.mlen {w : World} {F : List Nat} {g n : Nat} {D : DiskSt} (h : Dsk w F g n D) : D.M.length ≤ n := by
  have hok := h.ok
  obtain ⟨gb, c, gm, O, oc, L, V, hp⟩ := h.parts
  have := keys_len n _ hp.nodupM (fun x hx => by
    obtain ⟨p, hp, rfl⟩ := List.mem_map.1 hx
    have := hok.M p hp
    exact ⟨this.1, this.2.1⟩)
  rwa [List.length_map] at this
end Go.Proofs.Ytoidlmhebnlnbaa
