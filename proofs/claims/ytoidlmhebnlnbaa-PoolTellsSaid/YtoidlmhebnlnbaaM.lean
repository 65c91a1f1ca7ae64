/- Memory: what a slice reads as; a row of the call's own; append onto it, from whatever source. -/
import Derived.Test.YtoidlmhebnlnbaaA
import Derived.Test.YtoidlmhebnlnbaaChecked
import Derived.ProofKit
import Derived.KernelRfl
import Derived.Lib.Hide
import Derived.OwnWalk
import Derived.Maps.AppendAt
import Derived.Deep.AppendSrc
import Derived.Lib.SlBytesConst
import Derived.Deep.QuietTactic
import Derived.BigQuiet
import Derived.Deep.RegionHeld3
import Derived.Deep.RegionWith
import Derived.Deep.RegionLaw
set_option linter.unusedVariables false
set_option linter.unusedSimpArgs false
namespace Go.Proofs.Ytoidlmhebnlnbaa
open Go.RowKit

abbrev Byte := BitVec 8
/-- A byte as a value. -/
def vb (x : Byte) : Value := .int .u8 (nb x)
def vbs (xs : List Byte) : List Value := xs.map vb
theorem vbs_length (xs : List Byte) : (vbs xs).length = xs.length := by simp [vbs]
theorem vbs_append (xs ys : List Byte) : vbs (xs ++ ys) = vbs xs ++ vbs ys := by simp [vbs]
theorem vbs_nil : vbs [] = [] := rfl
theorem vbs_one (x : Byte) : vbs [x] = [vb x] := rfl
theorem vbs_oneCell (xs : List Byte) : ∀ u ∈ vbs xs, u.oneCell' = true := by
  intro u hu
  simp only [vbs, List.mem_map] at hu
  obtain ⟨x, _, rfl⟩ := hu
  rfl
theorem vbs_get (xs : List Byte) (i : Nat) (h : i < xs.length) : (vbs xs)[i]'(by rw [vbs_length]; exact h) = vb xs[i] := by simp [vbs]
theorem vbs_get? (xs : List Byte) (i : Nat) (h : i < xs.length) : (vbs xs)[i]? = some (vb xs[i]) := by simp [vbs, h]
theorem vbs_take (xs : List Byte) (n : Nat) : vbs (xs.take n) = (vbs xs).take n := by simp [vbs, List.map_take]
theorem vbs_drop (xs : List Byte) (n : Nat) : vbs (xs.drop n) = (vbs xs).drop n := by simp [vbs, List.map_drop]

/-- From address A on the cells hold these values. (No cell: whatever A is.) -/
def RdV (w : World) (A : Option Addr) (vs : List Value) : Prop :=
  ∀ i, (h : i < vs.length) → ∃ b o, A = some ⟨b, o, none⟩ ∧ w.cell? ⟨b, o + i, none⟩ = some vs[i]
/-- From address A on the cells hold these bytes. -/
def Rd (w : World) (A : Option Addr) (xs : List Byte) : Prop := RdV w A (vbs xs)

theorem RdV.nil (w : World) (A : Option Addr) : RdV w A [] := fun i h => by simp at h
theorem Rd.nil (w : World) (A : Option Addr) : Rd w A [] := RdV.nil w A
theorem RdV.form {w : World} {A : Option Addr} {vs : List Value} (h : RdV w A vs) (hx : 0 < vs.length) :
    ∃ b o, A = some ⟨b, o, none⟩ ∧ b < w.heap.size ∧ ∀ i, (hi : i < vs.length) → w.cell? ⟨b, o + i, none⟩ = some vs[i] := by
  obtain ⟨b, o, rfl, hc⟩ := h 0 hx
  refine ⟨b, o, rfl, World.block_lt_of_cell? w _ hc, fun i hi => ?_⟩
  obtain ⟨b', o', e, hc'⟩ := h i hi
  simp only [Option.some.injEq, Addr.mk.injEq, and_true] at e
  obtain ⟨rfl, rfl⟩ := e
  exact hc'
theorem Rd.form {w : World} {A : Option Addr} {xs : List Byte} (h : Rd w A xs) (hx : 0 < xs.length) :
    ∃ b o, A = some ⟨b, o, none⟩ ∧ b < w.heap.size ∧ ∀ i, (hi : i < xs.length) → w.cell? ⟨b, o + i, none⟩ = some (vb xs[i]) := by
  obtain ⟨b, o, h1, h2, h3⟩ := RdV.form h (by rw [vbs_length]; exact hx)
  refine ⟨b, o, h1, h2, fun i hi => ?_⟩
  have := h3 i (by rw [vbs_length]; exact hi)
  rw [vbs_get xs i hi] at this
  exact this
/-- What stands at the known addresses of a block. -/
theorem RdV.of {w : World} {b o : Nat} {vs : List Value} (h : ∀ i, (hi : i < vs.length) → w.cell? ⟨b, o + i, none⟩ = some vs[i]) : RdV w (some ⟨b, o, none⟩) vs := fun i hi => ⟨b, o, rfl, h i hi⟩
theorem RdV.move {w w' : World} {A : Option Addr} {vs : List Value} (h : RdV w A vs) (hk : ∀ a v, A.map (·.block) = some a.block → w.cell? a = some v → w'.cell? a = some v) : RdV w' A vs := fun i hi => by
  obtain ⟨b, o, rfl, hc⟩ := h i hi
  exact ⟨b, o, rfl, hk _ _ rfl hc⟩
theorem RdV.below {w w' : World} {A : Option Addr} {vs : List Value} (h : RdV w A vs) (hb : Below w.heap.size w w') : RdV w' A vs :=
  h.move fun a _ _ hc => (hb.cell (World.block_lt_of_cell? w a hc)).trans hc
theorem Rd.below {w w' : World} {A : Option Addr} {xs : List Byte} (h : Rd w A xs) (hb : Below w.heap.size w w') : Rd w' A xs := RdV.below h hb
theorem RdV.alloc {w : World} {A : Option Addr} {vs : List Value} (h : RdV w A vs) (o : Obj) : RdV (w.alloc o) A vs := h.below ((Below.refl _ _).alloc (Nat.le_refl _) o)
theorem Rd.alloc {w : World} {A : Option Addr} {xs : List Byte} (h : Rd w A xs) (o : Obj) : Rd (w.alloc o) A xs := RdV.alloc h o
theorem RdV.drew {w : World} {A : Option Addr} {vs : List Value} (h : RdV w A vs) : RdV w.drew A vs := h
theorem Rd.drew {w : World} {A : Option Addr} {xs : List Byte} (h : Rd w A xs) : Rd w.drew A xs := h
theorem RdV.take {w : World} {A : Option Addr} {vs : List Value} (h : RdV w A vs) (n : Nat) : RdV w A (vs.take n) := fun i hi => by
  simp only [List.length_take] at hi
  obtain ⟨b, o, rfl, hc⟩ := h i (by omega)
  exact ⟨b, o, rfl, by simpa using hc⟩
theorem Rd.take {w : World} {A : Option Addr} {xs : List Byte} (h : Rd w A xs) (n : Nat) : Rd w A (xs.take n) := by
  unfold Rd; rw [vbs_take]; exact RdV.take h n
theorem RdV.drop {w : World} {b o : Nat} {vs : List Value} (h : RdV w (some ⟨b, o, none⟩) vs) (n : Nat) : RdV w (some ⟨b, o + n, none⟩) (vs.drop n) := fun i hi => by
  simp only [List.length_drop] at hi
  obtain ⟨b', o', e, hc⟩ := h (n + i) (by omega)
  simp only [Option.some.injEq, Addr.mk.injEq, and_true] at e
  obtain ⟨rfl, rfl⟩ := e
  exact ⟨b, o + n, rfl, by simpa [Nat.add_assoc] using hc⟩
theorem Rd.drop {w : World} {b o : Nat} {xs : List Byte} (h : Rd w (some ⟨b, o, none⟩) xs) (n : Nat) : Rd w (some ⟨b, o + n, none⟩) (xs.drop n) := by
  unfold Rd; rw [vbs_drop]; exact RdV.drop h n
/-- A new block reads as its cells. -/
theorem RdV.lit (w : World) (vs : List Value) (t : TypeId) {g : Nat} (hg : g = w.heap.size := by simp) : RdV (w.alloc (.cells vs.toArray t)) (some ⟨g, 0, none⟩) vs := fun i hi => by
  subst hg
  refine ⟨w.heap.size, 0, rfl, ?_⟩
  rw [cell_of_row _ _ _ vs.toArray t (0, 0) (heap_alloc_new _ _)]
  simp [hi]
/-- The same of a row that bears a mark behind its last cell ('[]byte("..")'). -/
theorem RdV.litF (w : World) (vs : List Value) (t : TypeId) (fr : Nat × Nat) {g : Nat} (hg : g = w.heap.size := by simp) : RdV (w.alloc (.cells vs.toArray t fr)) (some ⟨g, 0, none⟩) vs := fun i hi => by
  subst hg
  refine ⟨w.heap.size, 0, rfl, ?_⟩
  rw [cell_of_row _ _ _ vs.toArray t fr (heap_alloc_new _ _)]
  simp [hi]
theorem RdV.adds {w : World} {ad : Addr} {vs : List Value} (h : RdV w (some ad) vs) : ∀ j u, vs[j]? = some u → w.cell? (ad.add j) = some u := fun j u hu => by
  obtain ⟨hj, rfl⟩ := List.getElem?_eq_some_iff.1 hu
  obtain ⟨b, o, e, hc⟩ := h j hj
  simp only [Option.some.injEq] at e
  subst e
  have hadd : (⟨b, o, none⟩ : Addr).add j = ⟨b, o + j, none⟩ := by unfold Addr.add; split <;> simp_all
  rw [hadd]; exact hc

/-! ### rows of the call's own -/
/-- A row of the call's own, from block 'base' on, elements of one cell. -/
def OwnV (e : TypeId) (w : World) (base : Nat) (v : Value) (vs : List Value) : Prop := w.ownsRow base e 1 v vs.length vs
def Own (w : World) (base : Nat) (v : Value) (xs : List Byte) : Prop := OwnV 5 w base v (vbs xs)

theorem OwnV.form {e : TypeId} {w : World} {base : Nat} {v : Value} {vs : List Value} (h : OwnV e w base v vs) :
    ∃ A c, v = .slice A vs.length c ∧ vs.length ≤ c ∧ c ≤ maxLen ∧ RdV w A vs ∧ (∀ ad, A = some ad → base ≤ ad.block ∧ ad.block < w.heap.size) := by
  rcases h.2 with ⟨rfl, h0⟩ | ⟨g, cap, cur, rfl, hb, hg, h1, h2, _⟩
  · refine ⟨none, 0, by rw [h0], by omega, by simp [maxLen], ?_, by simp⟩
    rw [List.eq_nil_of_length_eq_zero h0]
    exact RdV.nil _ _
  · refine ⟨_, cap, rfl, h1, h2, fun i hi => ⟨g, 0, rfl, ?_⟩, ?_⟩
    · have := World.ownsRow.cells h (g := g) rfl i _ (List.getElem?_eq_getElem hi)
      have hadd : (⟨g, 0, none⟩ : Addr).add i = ⟨g, 0 + i, none⟩ := by unfold Addr.add; split <;> simp_all
      rw [hadd] at this
      exact this
    · intro ad ha
      simp only [Option.some.injEq] at ha
      subst ha
      exact ⟨hb, (Array.getElem?_eq_some_iff.1 hg).1⟩
theorem Own.form {w : World} {base : Nat} {v : Value} {xs : List Byte} (h : Own w base v xs) :
    ∃ A c, v = .slice A xs.length c ∧ xs.length ≤ c ∧ c ≤ maxLen ∧ Rd w A xs ∧ (∀ ad, A = some ad → base ≤ ad.block ∧ ad.block < w.heap.size) := by
  obtain ⟨A, c, h1, h2, h3⟩ := OwnV.form h
  rw [vbs_length] at h1 h2
  exact ⟨A, c, h1, h2, h3⟩
theorem OwnV.grown {e : TypeId} {w w' : World} {base : Nat} {v : Value} {vs : List Value} {row : Option Nat} (h : OwnV e w base v vs) (hg : w.grownBy w' row) (hne : v.ownBlock = none ∨ v.ownBlock ≠ row) : OwnV e w' base v vs :=
  World.ownsRow.kept h hg hne
theorem OwnV.below {e : TypeId} {w w' : World} {base : Nat} {v : Value} {vs : List Value} (h : OwnV e w base v vs) (hb : Below w.heap.size w w') : OwnV e w' base v vs :=
  World.ownsRow.kept (row := none) h ⟨hb.os, hb.tape, hb.output, hb.size, fun k hk _ => hb.block k hk⟩ (by cases hv : v.ownBlock <;> simp)
theorem Own.below {w w' : World} {base : Nat} {v : Value} {xs : List Byte} (h : Own w base v xs) (hb : Below w.heap.size w w') : Own w' base v xs := OwnV.below h hb
theorem OwnV.lower {e : TypeId} {w : World} {base base' : Nat} {v : Value} {vs : List Value} (h : OwnV e w base v vs) (hb : base' ≤ base) : OwnV e w base' v vs := by
  refine ⟨h.1, ?_⟩
  rcases h.2 with h1 | ⟨g, cap, cur, h1, h2, h3⟩
  · exact .inl h1
  · exact .inr ⟨g, cap, cur, h1, by omega, h3⟩
theorem Own.lower {w : World} {base base' : Nat} {v : Value} {xs : List Byte} (h : Own w base v xs) (hb : base' ≤ base) : Own w base' v xs := OwnV.lower h hb
theorem OwnV.nil (e : TypeId) (w : World) (base : Nat) : OwnV e w base (.slice none 0 0) [] := World.ownsRow_nil w base _ _
theorem Own.nil (w : World) (base : Nat) : Own w base (.slice none 0 0) [] := OwnV.nil _ w base
theorem OwnV.alloc {e : TypeId} {w : World} {base : Nat} {v : Value} {vs : List Value} (h : OwnV e w base v vs) (o : Obj) : OwnV e (w.alloc o) base v vs := World.ownsRow.alloc h o
theorem Own.alloc {w : World} {base : Nat} {v : Value} {xs : List Byte} (h : Own w base v xs) (o : Obj) : Own (w.alloc o) base v xs := OwnV.alloc h o
theorem OwnV.drew {e : TypeId} {w : World} {base : Nat} {v : Value} {vs : List Value} (h : OwnV e w base v vs) : OwnV e w.drew base v vs := h
theorem Own.drew {w : World} {base : Nat} {v : Value} {xs : List Byte} (h : Own w base v xs) : Own w.drew base v xs := h
theorem OwnV.lit (e : TypeId) (w : World) (vs : List Value) (hm : vs.length ≤ maxLen) : OwnV e (w.alloc (.cells vs.toArray e)) w.heap.size (.slice (some ⟨w.heap.size, 0, none⟩) vs.length vs.length) vs := by
  have := World.ownsRow_lit (base := w.heap.size) (e := e) (size := 1) w vs.toArray vs.length (Nat.le_refl _) hm (by simp)
  exact this
theorem OwnV.base {e : TypeId} {w : World} {base : Nat} {v : Value} {vs : List Value} (h : OwnV e w base v vs) : ∀ k, v.ownBlock = some k → base ≤ k ∧ k < w.heap.size := World.ownsRow.lt h
theorem OwnV.len {e : TypeId} {w : World} {base : Nat} {v : Value} {vs : List Value} (h : OwnV e w base v vs) : vs.length ≤ maxLen := by
  obtain ⟨A, c, _, h1, h2, _⟩ := h.form
  omega

/-- 'append(v, x...)': v a row of the call's own, x whatever reads as these values. -/
theorem run_append_any {P : Program} (w : World) (base : Nat) (t ty e : TypeId) (bytes : Nat) (z : Value) (ht : P.underlying t = some (.slice e)) (hinfo : (P.info? e).map (fun i => (i.zero, i.size, i.bytes)) = some (some z, 1, bytes)) (hzs : z.cells.size = 1)
    (v : Value) (xs : List Value) (hown : OwnV e w base v xs) (A : Option Addr) (c : Nat) (ys : List Value) (hr : RdV w A ys) (h1 : ∀ u ∈ ys, u.oneCell' = true)
    (h63 : xs.length + ys.length ≤ maxLen) (hbytes : (xs.length + ys.length) * bytes ≤ 140737488355328) (hbase : base ≤ w.heap.size) :
    ∃ v' w', (Builtin.append_ #[t, t] ty #[v, .slice A ys.length c]).run P w = .ok v' w' ∧ OwnV e w' base v' (xs ++ ys) ∧ w.grownBy w' v.ownBlock ∧ (v'.ownBlock = v.ownBlock ∨ v'.ownBlock = some w.heap.size) := by
  obtain ⟨i, hi, hz, hsize, hby⟩ := info_parts hinfo
  cases A with
  | none =>
    have hys : ys = [] := by
      cases ys with
      | nil => rfl
      | cons y ys => obtain ⟨b, o, e, _⟩ := hr 0 (by simp); cases e
    subst hys
    refine ⟨v, w, ?_, by simpa using hown, ⟨rfl, rfl, rfl, Nat.le_refl _, fun _ _ _ => rfl⟩, .inl rfl⟩
    rcases hown.2 with ⟨rfl, h0⟩ | ⟨g, cap, cur, rfl, _, _, hnc, _⟩
    · simp [Builtin.append_, run_underlying ht, sizeOf, typeInfo, hi, Builtin.lenOf, Builtin.firstCells]
    · simp [Builtin.append_, run_underlying ht, sizeOf, typeInfo, hi, Builtin.lenOf, Builtin.firstCells, hnc, storeCells]
  | some ad =>
    obtain ⟨v', w', r1, r2, r3, _, r4⟩ := run_append_own_at (P := P) w base t ty e i z 1 bytes ht hi hz hsize hby hzs (by omega) v xs.length xs hown ad ys.length c ys (by simp) hr.adds h1 h63 hbytes hbase
    exact ⟨v', w', r1, by unfold OwnV; rw [List.length_append]; exact r2, r3, r4⟩

theorem info_u8 : (Try.prog.info? 5).map (fun i => (i.zero, i.size, i.bytes)) = some (some (.int .u8 0), 1, 1) := by kernel_rfl

theorem maxLen_eq : maxLen = 9223372036854775807 := by simp [maxLen]
theorem run_append_bytes (w : World) (ty : TypeId) (base : Nat) (v : Value) (xs : List Byte) (hown : Own w base v xs) (A : Option Addr) (c : Nat) (ys : List Byte) (hr : Rd w A ys)
    (hlen : xs.length + ys.length ≤ 140737488355328) (hbase : base ≤ w.heap.size) :
    ∃ v' w', (Builtin.append_ #[29, 29] ty #[v, .slice A ys.length c]).run Try.prog w = .ok v' w' ∧ Own w' base v' (xs ++ ys) ∧ w.grownBy w' v.ownBlock ∧ (v'.ownBlock = v.ownBlock ∨ v'.ownBlock = some w.heap.size) := by
  have := run_append_any (P := Try.prog) w base 29 ty 5 1 (.int .u8 0) Try.underlying29 info_u8 rfl v (vbs xs) hown A c (vbs ys) hr (vbs_oneCell ys) (by rw [vbs_length, vbs_length, maxLen_eq]; omega) (by rw [vbs_length, vbs_length]; omega) hbase
  rw [vbs_length] at this
  unfold Own
  rw [vbs_append]
  exact this

/-- At the operation, in the text's order. -/
theorem wpList_append_bytes {ops : Array Oper} {rest : List Oper} {o : Oper} {a : Act} {w : World} {Q : Exit → Act → World → Prop} (hgd : o.guard = none) (s x : Operand)
    (ho : o.op = .call { callee := .builtin .append, args := #[s, x], argTypes := #[29, 29] })
    (base : Nat) (v : Value) (xs : List Byte) (hown : Own w base v xs) (hs : a.eval s = v) (A : Option Addr) (c : Nat) (ys : List Byte) (hx : a.eval x = .slice A ys.length c) (hr : Rd w A ys)
    (hlen : xs.length + ys.length ≤ 140737488355328) (hbase : base ≤ w.heap.size)
    (h : ∀ v' w', Own w' base v' (xs ++ ys) → w.grownBy w' v.ownBlock → (v'.ownBlock = v.ownBlock ∨ v'.ownBlock = some w.heap.size) → wpList Try.prog ops Q rest (a.put o.dst v') w') : wpList Try.prog ops Q (o :: rest) a w := by
  refine wpList_plain hgd fun K hK => ?_
  obtain ⟨v', w', hrun, h2, h3, h4⟩ := run_append_bytes w o.type base v xs hown A c ys hr hlen hbase
  unfold Oper.wp execOp
  simp only [ho, resolve, invoke, builtin, Sem.run_bind, Sem.run_pure, Result.andThen_ok, List.map_toArray, List.map_cons, List.map_nil, hs, hx, hrun]
  exact hK _ _ (h v' w' h2 h3 h4)

/-- The same for whatever elements of one cell. -/
theorem wpList_append_any {P : Program} {ops : Array Oper} {rest : List Oper} {o : Oper} {a : Act} {w : World} {Q : Exit → Act → World → Prop} (hgd : o.guard = none) (s x : Operand) (t e : TypeId) (bytes : Nat) (z : Value)
    (ht : P.underlying t = some (.slice e)) (hinfo : (P.info? e).map (fun i => (i.zero, i.size, i.bytes)) = some (some z, 1, bytes)) (hzs : z.cells.size = 1)
    (ho : o.op = .call { callee := .builtin .append, args := #[s, x], argTypes := #[t, t] })
    (base : Nat) (v : Value) (xs : List Value) (hown : OwnV e w base v xs) (hs : a.eval s = v) (A : Option Addr) (n c : Nat) (ys : List Value) (hn : n = ys.length) (hx : a.eval x = .slice A n c) (hr : RdV w A ys) (h1 : ∀ u ∈ ys, u.oneCell' = true)
    (h63 : xs.length + ys.length ≤ maxLen) (hbytes : (xs.length + ys.length) * bytes ≤ 140737488355328) (hbase : base ≤ w.heap.size)
    (h : ∀ v' w', OwnV e w' base v' (xs ++ ys) → w.grownBy w' v.ownBlock → (v'.ownBlock = v.ownBlock ∨ v'.ownBlock = some w.heap.size) → wpList P ops Q rest (a.put o.dst v') w') : wpList P ops Q (o :: rest) a w := by
  subst hn
  refine wpList_plain hgd fun K hK => ?_
  obtain ⟨v', w', hrun, h2, h3, h4⟩ := run_append_any (P := P) w base t o.type e bytes z ht hinfo hzs v xs hown A c ys hr h1 h63 hbytes hbase
  unfold Oper.wp execOp
  simp only [ho, resolve, invoke, builtin, Sem.run_bind, Sem.run_pure, Result.andThen_ok, List.map_toArray, List.map_cons, List.map_nil, hs, hx, hrun]
  exact hK _ _ (h v' w' h2 h3 h4)

/-! ### slices of slices: run equations with the address left open -/
/-- x[k:]. -/
theorem cut_lo (A : Option Addr) (c : Nat) (xs : List Byte) (k : Nat) (hk : k ≤ xs.length) (hc : xs.length ≤ c) :
    ∃ A', (∀ W, (Instr.slice 29 (.slice A xs.length c) (some (.int .i64 (k : Int))) none none).run Try.prog W = .ok (.slice A' (xs.length - k) (c - k)) W) ∧ (∀ w, Rd w A xs → Rd w A' (xs.drop k)) ∧ (A.map (·.block) = A'.map (·.block)) := by
  obtain ⟨i, hi, _, hsz, _⟩ := info_parts info_u8
  refine ⟨if c = k then A else A.map (·.add k), fun W => ?_, fun w h => ?_, ?_⟩
  · have hel : Try.prog.elem 29 = 5 := by simp [Program.elem, Try.underlying29]
    have hu : Try.prog.underlying 29 = some (.slice (Try.prog.elem 29)) := by rw [hel]; exact Try.underlying29
    rw [run_slice_l W 29 A xs.length c hu .i64 (k : Int) (Int.natCast_nonneg _) (by omega), hel]
    simp [sizeOf, typeInfo, hi, hsz, sliced, Result.andThen]
  · by_cases hck : c = k
    · rw [List.drop_eq_nil_of_le (by omega)]; exact Rd.nil _ _
    · rw [if_neg hck]
      intro j hj
      simp only [vbs_length, List.length_drop] at hj
      obtain ⟨b, o, rfl, hb, hcell⟩ := h.form (by omega)
      refine ⟨b, o + k, ?_, ?_⟩
      · have : (⟨b, o, none⟩ : Addr).add k = ⟨b, o + k, none⟩ := by unfold Addr.add; split <;> simp_all
        simp [this]
      · have := hcell (k + j) (by omega)
        rw [Nat.add_assoc, this]
        simp [vbs]
  · by_cases hck : c = k
    · simp [hck]
    · rw [if_neg hck]
      cases A with
      | none => rfl
      | some a => simp [Addr.add]; split <;> rfl
/-- x[:k]. -/
theorem cut_hi (A : Option Addr) (c : Nat) (xs : List Byte) (k : Nat) (hk : k ≤ xs.length) (hc : xs.length ≤ c) :
    ∀ W, (Instr.slice 29 (.slice A xs.length c) none (some (.int .i64 (k : Int))) none).run Try.prog W = .ok (.slice A k c) W := by
  intro W
  obtain ⟨i, hi, _, hsz, _⟩ := info_parts info_u8
  have hel : Try.prog.elem 29 = 5 := by simp [Program.elem, Try.underlying29]
  have hu : Try.prog.underlying 29 = some (.slice (Try.prog.elem 29)) := by rw [hel]; exact Try.underlying29
  rw [run_slice_h W 29 A xs.length c hu .i64 (k : Int) (Int.natCast_nonneg _) (by omega), hel]
  simp [sizeOf, typeInfo, hi, hsz, sliced, Result.andThen]
  cases A with
  | none => intro _; rfl
  | some a => intro _; simp [Addr.add]

/-- A block of another's own row: what was written is none of these. -/
theorem Below.of_grown {w0 w w' : World} {v : Value} (hb : Below w0.heap.size w0 w) (hg : w.grownBy w' v.ownBlock) (hv : ∀ k, v.ownBlock = some k → w0.heap.size ≤ k) : Below w0.heap.size w0 w' := hb.grown hg hb.size hv

theorem OwnV.info {e : TypeId} {w : World} {base n : Nat} {A : Option Addr} {c : Nat} {vs : List Value} (h : OwnV e w base (.slice A n c) vs) : vs.length ≤ c ∧ c ≤ maxLen ∧ RdV w A vs ∧ n = vs.length ∧ ∀ ad, A = some ad → base ≤ ad.block ∧ ad.block < w.heap.size := by
  obtain ⟨A', c', e1, h1, h2, h3, h4⟩ := h.form
  simp only [Value.slice.injEq] at e1
  obtain ⟨rfl, rfl, rfl⟩ := e1
  exact ⟨h1, h2, h3, rfl, h4⟩
theorem Own.info {w : World} {base n : Nat} {A : Option Addr} {c : Nat} {xs : List Byte} (h : Own w base (.slice A n c) xs) : xs.length ≤ c ∧ c ≤ maxLen ∧ Rd w A xs ∧ n = xs.length ∧ ∀ ad, A = some ad → base ≤ ad.block ∧ ad.block < w.heap.size := by
  have := OwnV.info h
  rw [vbs_length] at this
  exact this
theorem Own.bnd {w : World} {base : Nat} {v : Value} {xs : List Byte} (h : Own w base v xs) : ∀ k, v.ownBlock = some k → base ≤ k := fun k hk => (OwnV.base h k hk).1

/-- w has come out of w0: what was there at w0 is as it was. (A plain definition: the walk does not look into it.) -/
def FB (w0 w : World) : Prop := Below w0.heap.size w0 w
theorem FB.refl (w : World) : FB w w := Below.refl _ _
theorem FB.out {w0 w : World} (h : FB w0 w) : Below w0.heap.size w0 w := h
theorem FB.le {w0 w : World} (h : FB w0 w) : w0.heap.size ≤ w.heap.size := Below.size h
theorem FB.call {w0 w w' : World} (h : FB w0 w) (k : Below w.heap.size w w') : FB w0 w' := Below.trans h (Below.mono k h.le)
theorem FB.alloc {w0 w : World} (h : FB w0 w) (o : Obj) : FB w0 (w.alloc o) := Below.alloc h h.le o
theorem FB.drew {w0 w : World} (h : FB w0 w) : FB w0 w.drew := Below.drew h
theorem FB.drewN {w0 w : World} (h : FB w0 w) (n : Nat) : FB w0 (w.drewN n) := ⟨h.out.os, h.out.tape, h.out.output, h.out.size, h.out.block⟩
theorem FB.set {w0 w : World} (h : FB w0 w) {p : Addr} (hp : w0.heap.size ≤ p.block) (u : Value) : FB w0 (w.setCell p u) := Below.setCell h hp u
theorem FB.grown {w0 w w' : World} {row : Option Nat} (h : FB w0 w) (hg : w.grownBy w' row) (hr : ∀ k, row = some k → w0.heap.size ≤ k) : FB w0 w' := Below.grown h hg h.le hr
theorem FB.trans {w0 w w' : World} (h : FB w0 w) (k : FB w w') : FB w0 w' := h.call k
theorem FB.rd {w0 w : World} (h : FB w0 w) {A : Option Addr} {xs : List Byte} (hr : Rd w0 A xs) : Rd w A xs := hr.below h
theorem FB.rdV {w0 w : World} (h : FB w0 w) {A : Option Addr} {vs : List Value} (hr : RdV w0 A vs) : RdV w A vs := hr.below h
theorem FB.own {w0 w : World} (h : FB w0 w) {base : Nat} {v : Value} {xs : List Byte} (hr : Own w0 base v xs) : Own w base v xs := hr.below h
theorem FB.ownV {w0 w : World} (h : FB w0 w) {e : TypeId} {base : Nat} {v : Value} {vs : List Value} (hr : OwnV e w0 base v vs) : OwnV e w base v vs := OwnV.below hr h
theorem FB.block {w0 w : World} (h : FB w0 w) (k : Nat) (hk : k < w0.heap.size) : w.heap[k]? = w0.heap[k]? := Below.block h k hk
theorem FB.cell {w0 w : World} (h : FB w0 w) {a : Addr} {v : Value} (hc : w0.cell? a = some v) : w.cell? a = some v := (Below.cell h (World.block_lt_of_cell? w0 a hc)).trans hc

/-- From address A on stand slices of bytes. -/
def RdL (w : World) (A : Option Addr) (ls : List (List Byte)) : Prop :=
  ∀ i, (h : i < ls.length) → ∃ b o A' c, A = some ⟨b, o, none⟩ ∧ w.cell? ⟨b, o + i, none⟩ = some (.slice A' ls[i].length c) ∧ ls[i].length ≤ c ∧ c ≤ maxLen ∧ Rd w A' ls[i]
theorem RdL.below {w w' : World} {A : Option Addr} {ls : List (List Byte)} (h : RdL w A ls) (hb : Below w.heap.size w w') : RdL w' A ls := fun i hi => by
  obtain ⟨b, o, A', c, h1, h2, h3, h4, h5⟩ := h i hi
  exact ⟨b, o, A', c, h1, (hb.cell (World.block_lt_of_cell? w _ h2)).trans h2, h3, h4, h5.below hb⟩
theorem RdL.lit {w : World} {ls : List (List Byte)} {vs : List Value} {t : TypeId} (hl : vs.length = ls.length)
    (h : ∀ i, (hi : i < ls.length) → ∃ A' c, vs[i]? = some (.slice A' ls[i].length c) ∧ ls[i].length ≤ c ∧ c ≤ maxLen ∧ Rd w A' ls[i]) : RdL (w.alloc (.cells vs.toArray t)) (some ⟨w.heap.size, 0, none⟩) ls := fun i hi => by
  obtain ⟨A', c, h1, h2, h3, h4⟩ := h i hi
  refine ⟨w.heap.size, 0, A', c, rfl, ?_, h2, h3, h4.alloc _⟩
  rw [cell_of_row _ _ _ vs.toArray t (0, 0) (heap_alloc_new _ _)]
  simpa using h1

/-- '[]byte("..")' of a constant: what the walk is given for it. -/
theorem conv_const (g : Nat) (w : World) (C : Array Value) (n c : Nat) (hg : g = w.heap.size) : (convert 29 29 (.slice (some ⟨g, 0, none⟩) n c)).run Try.prog (w.alloc (.cells C 5)) = .ok (.slice (some ⟨g, 0, none⟩) n c) (w.alloc (.cells C 5 (C.size, C.size + 1))) := by
  subst hg
  exact Lib.run_convert_bytes_const (P := Try.prog) w _ _ C n c Try.underlying29 Try.underlying5

/-- A load, a store, by its run equation (a whole array or struct: the walk's own steps leave those). -/
theorem wpList_load_by {P : Program} {ops : Array Oper} {rest : List Oper} {o : Oper} {a : Act} {w : World} {Q : Exit → Act → World → Prop} (hgd : o.guard = none) (ty : TypeId) (x : Operand) (ho : o.op = .load ty x)
    (v : Value) (hrun : (Instr.loadAt ty (a.eval x)).run P w = .ok v w) (h : wpList P ops Q rest (a.put o.dst v) w) : wpList P ops Q (o :: rest) a w :=
  wpList_plain hgd fun _ hK => by
    unfold Oper.wp execOp
    simp only [ho, Sem.run_bind, Sem.run_pure, Result.andThen_ok, hrun]
    exact hK _ _ h
theorem wpList_store_by {P : Program} {ops : Array Oper} {rest : List Oper} {o : Oper} {a : Act} {w : World} {Q : Exit → Act → World → Prop} (hgd : o.guard = none) (ty : TypeId) (x y : Operand) (ho : o.op = .store ty x y)
    (w' : World) (hrun : (Instr.storeAt ty (a.eval x) (a.eval y)).run P w = .ok () w') (h : wpList P ops Q rest (a.put o.dst undef) w') : wpList P ops Q (o :: rest) a w :=
  wpList_plain hgd fun _ hK => by
    unfold Oper.wp execOp
    simp only [ho, Sem.run_bind, Sem.run_pure, Result.andThen_ok, hrun]
    exact hK _ _ h

theorem below_trans {w w1 w2 : World} {B : Nat} (h : Below B w w1) (hB : B ≤ w1.heap.size) (k : Below w1.heap.size w1 w2) : Below B w w2 := h.trans (k.mono hB)

end Go.Proofs.Ytoidlmhebnlnbaa
