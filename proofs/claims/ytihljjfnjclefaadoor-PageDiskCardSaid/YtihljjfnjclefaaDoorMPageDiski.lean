/- Walks and laws that the claim's last text stands on, several texts in one file: DskG, DskH, DskI, PgM, PgN, DskJ, DskP, DskQ. Under the hypotheses that each theorem states. -/
import Derived.Defers
import Derived.Deep.Cut
import Derived.Deep.CutRange
import Derived.Test.YtihljjfnjclefaaDoorMPageDiska
import Derived.Test.YtihljjfnjclefaaDoorMPageDiskb
import Derived.Test.YtihljjfnjclefaaDoorMPageDiskc
import Derived.Test.YtihljjfnjclefaaDoorMPageDiskd
import Derived.Test.YtihljjfnjclefaaDoorMPageDiske
import Derived.Test.YtihljjfnjclefaaDoorMPageDiskf
import Derived.Test.YtihljjfnjclefaaDoorMPageDiskg
import Derived.Test.YtihljjfnjclefaaDoorMPageDiskh
/- A disk: the cache made empty; the walk through Crash. -/
set_option linter.unusedVariables false
set_option linter.unusedSimpArgs false
namespace Go.Proofs.YtihljjfnjclefaaDoor
open Go.ChangeShapes Go.WideShapes Go.ChangeAt Go.RowKit Go.MapKept

/-- 'clear(m)' at the operation. -/
theorem wpList_clear_run {P : Program} {ops : Array Oper} {rest : List Oper} {o : Oper} {a : Act} {w : World} {Q : Exit → Act → World → Prop} (hgd : o.guard = none) (x : Operand) (t : TypeId)
    (ho : o.op = .call { callee := .builtin .clear, args := #[x], argTypes := #[t] }) (v : Value) (hx : a.eval x = v) {v' : Value} {w' : World}
    (hr : (Builtin.clear_ #[t] o.type #[v]).run P w = .ok v' w') (h : wpList P ops Q rest (a.put o.dst v') w') : wpList P ops Q (o :: rest) a w :=
  wpList_plain hgd fun _ hK => by
    unfold Oper.wp execOp
    simp only [ho, resolve, invoke, builtin, Sem.run_bind, Sem.run_pure, Result.andThen_ok, List.map_toArray, List.map_cons, List.map_nil, hx, hr]
    exact hK _ _ h
/-- The cache made empty, and the order. -/
theorem DskC.cleared {w w' : World} {F : List Nat} {g n gb c gm : Nat} {O : Option Addr} {oc : Nat} {L : Option Nat} {V : List (Int × Value)} {D : DiskSt} {ord : List Int} (h : DskC w F g n gb c gm O oc L V D ord) (hok : D.ok n) (hm : MapAt w' gm []) (htb : TB gm w w') :
    w'.heap[g]? = some (.cells #[.slice (some ⟨gb, 0, none⟩) (512 * n) c, .map (some gm), .slice O ord.length oc, .pointer (L.map fun l => ⟨l, 0, none⟩)] 77 (0, 0)) ∧
    Dsk (w'.setCell ⟨g, 2, none⟩ (.slice none 0 0)) F g n { D with M := [] } ∧ TS F w (w'.setCell ⟨g, 2, none⟩ (.slice none 0 0)) := by
  have hnd := h.nodup
  unfold dctl at hnd
  have hts : TS [gm] w w' := TS.tb htb (by simp)
  have hset : TS [g] w' (w'.setCell ⟨g, 2, none⟩ (.slice none 0 0)) := TS.tb (TB.set w' 2 _) (by simp)
  have hgm : g ≠ gm := fun e => by simp [e] at hnd
  have hrow : w'.heap[g]? = _ := (hts.block g (Array.getElem?_eq_some_iff.1 h.row).1 (by simpa using hgm)).trans h.row
  have hts2 : TS [g, gm] w (w'.setCell ⟨g, 2, none⟩ (.slice none 0 0)) := ⟨hset.os.trans hts.os, hset.tape.trans hts.tape, hset.output.trans hts.output, Nat.le_trans hts.size hset.size, fun x hx hn => (hset.block x (Nat.lt_of_lt_of_le hx hts.size) (fun e => hn (by simp at e; simp [e]))).trans (hts.block x hx (fun e => hn (by simp at e; simp [e])))⟩
  have hx1 : ∀ x ∈ [gb] ++ L.toList, x ∉ [g, gm] := by
    intro x hx hm
    simp only [List.cons_append, List.nil_append, List.nodup_cons, List.mem_cons, List.mem_append, not_or] at hnd
    obtain ⟨⟨a1, a2, a3, a4⟩, ⟨b1, b2, b3⟩, ⟨c1, c2⟩, d⟩ := hnd
    simp at hx hm
    rcases hx with rfl | hx
    · rcases hm with rfl | rfl
      · exact a1 rfl
      · exact b1 rfl
    · rcases hm with rfl | rfl
      · exact a4 (by simpa using hx)
      · exact c2 (by simpa using hx)
  refine ⟨hrow, ⟨gb, c, gm, none, 0, L, [], ?_, hts2.ownV h.bytes (fun b hb => by cases hb; exact hx1 gb (by simp)), hm.ts hset (by simpa using hgm.symm), .nil, OwnV.nil _ _ _, ?_, ?_, ?_, ⟨hok.len, hok.n1, hok.n2, by simp, hok.f⟩, fun x hx => Nat.lt_of_lt_of_le (h.lt x hx) hts2.size⟩, ?_⟩
  · rw [heap_setCell_same _ _ _ _ _ _ hrow]; rfl
  · have h6 := h.fuse
    unfold FuseAt at *
    simp only
    revert h6
    generalize D.fuse = fz
    intro h6
    cases L with
    | none => cases fz with
      | none => trivial
      | some z => exact h6
    | some l => cases fz with
      | none => exact h6
      | some z =>
        simp only at h6 ⊢
        rw [hts2.block l (Array.getElem?_eq_some_iff.1 h6).1 (hx1 l (by simp))]; exact h6
  · have hsub : ([g, gb, gm] ++ (optBlk none ++ L.toList)).Sublist ([g, gb, gm] ++ (optBlk O ++ L.toList)) := List.Sublist.append_left (List.sublist_append_right _ _) _
    exact hnd.sublist hsub
  · intro x hx
    refine h.mem x ?_
    simp only [optBlk, Option.toList_none, List.map_nil, List.nil_append, List.mem_append] at hx
    simp only [dctl, List.mem_append]
    rcases hx with hx | hx
    · exact .inl hx
    · exact .inr (.inr hx)
  · exact ⟨hts2.os, hts2.tape, hts2.output, hts2.size, fun x hx hn => hts2.block x hx (fun e => hn (by
      simp at e
      rcases e with rfl | rfl
      · exact h.mem _ (by simp [dctl])
      · exact h.mem _ (by simp [dctl])))⟩
/-- How many bytes of the i-th cached sector a crash leaves. -/
def keptLen (keep : List Bool) (torn bytes : Int) (i : Nat) : Nat := if (i : Int) = torn ∧ 0 ≤ bytes ∧ bytes ≤ 512 then bytes.toNat else if keep.getD i false then 512 else 0
/-- The bytes when j cached sectors have been gone through. -/
def crashB (f : Nat → Nat) (M : List (Int × List Byte)) (b : List Byte) : Nat → List Byte
  | 0 => b
  | j + 1 => match M[j]? with
    | some p => splice (crashB f M b j) (512 * p.1.toNat) (p.2.take (f j))
    | none => crashB f M b j
theorem crashB_len {f : Nat → Nat} {M : List (Int × List Byte)} {b : List Byte} {n : Nat} (hb : b.length = 512 * n) (hM : ∀ p ∈ M, 0 ≤ p.1 ∧ p.1 < n ∧ p.2.length = 512) : ∀ j, (crashB f M b j).length = 512 * n
  | 0 => hb
  | j + 1 => by
    rw [crashB]
    cases hj : M[j]? with
    | none => exact crashB_len hb hM j
    | some p =>
      have := hM p (List.mem_of_getElem? hj)
      have ih := crashB_len (f := f) hb hM j
      simp only
      rw [splice_len (by rw [List.length_take, ih]; omega), ih]
/-- 'copy(x, y)' at the operation; as a step of a region that draws. -/
theorem wpList_copy_by {P : Program} {ops : Array Oper} {rest : List Oper} {o : Oper} {a : Act} {w : World} {Q : Exit → Act → World → Prop} (hgd : o.guard = none) (x y : Operand) (t t' : TypeId)
    (ho : o.op = .call { callee := .builtin .copy, args := #[x, y], argTypes := #[t, t'] }) (v u : Value) (hx : a.eval x = v) (hy : a.eval y = u) {v' : Value} {w' : World}
    (hr : ∀ ty, (Builtin.copy_ #[t, t'] ty #[v, u]).run P w = .ok v' w') (h : wpList P ops Q rest (a.put o.dst v') w') : wpList P ops Q (o :: rest) a w :=
  wpList_plain hgd fun _ hK => by
    unfold Oper.wp execOp
    simp only [ho, resolve, invoke, builtin, Sem.run_bind, Sem.run_pure, Result.andThen_ok, List.map_toArray, List.map_cons, List.map_nil, hx, hy, hr]
    exact hK _ _ h
theorem sch_copy {P : Program} {ops : Array Oper} {Q : Exit → Act → World → Prop} {E : World → World → Prop} {i : Nat} {σ : List (Nat × Bool)} {o : Oper} {a : Act} {w w' : World} (hi : ops[i]? = some o) (hw : Region.wanted o (yielded ops a.tmps) = true)
    (x y : Operand) (t t' : TypeId) (ho : o.op = .call { callee := .builtin .copy, args := #[x, y], argTypes := #[t, t'] }) (v u : Value) (hx : a.eval x = v) (hy : a.eval y = u) {v' : Value}
    (hr : ∀ ty, (Builtin.copy_ #[t, t'] ty #[v, u]).run P w = .ok v' w') (hE : E w w') (h : wpSch P ops Q E σ (a.put o.dst v') w') : wpSch P ops Q E ((i, false) :: σ) a w :=
  sch_eff hi hw fun K hK => by
    unfold Oper.wp execOp
    simp only [ho, resolve, invoke, builtin, Sem.run_bind, Sem.run_pure, Result.andThen_ok, List.map_toArray, List.map_cons, List.map_nil, hx, hy, hr]
    exact hK _ _ hE h
theorem cget_at : ∀ {M : List (Int × List Byte)} {j : Nat} {p : Int × List Byte}, (M.map (·.1)).Nodup → M[j]? = some p → cget M p.1 = some p.2
  | [], j, p, _, h => by simp at h
  | (k', v) :: M, 0, p, _, h => by
    simp only [List.getElem?_cons_zero, Option.some.injEq] at h
    subst h
    rw [cget, if_pos rfl]
  | (k', v) :: M, j + 1, p, hn, h => by
    simp only [List.getElem?_cons_succ] at h
    simp only [List.map_cons, List.nodup_cons] at hn
    rw [cget, if_neg (fun e => hn.1 (by rw [e]; exact List.mem_map.2 ⟨p, List.mem_of_getElem? h, rfl⟩))]
    exact cget_at hn.2 h
theorem DskC.nodupM {w : World} {F : List Nat} {g n gb c gm : Nat} {O : Option Addr} {oc : Nat} {L : Option Nat} {V : List (Int × Value)} {D : DiskSt} {ord : List Int} (h : DskC w F g n gb c gm O oc L V D ord) : (D.M.map (·.1)).Nodup := by
  obtain ⟨es, clock, m1, m2, m3, m4, m5⟩ := h.map
  rw [← h.vals.keys]; exact m5
theorem Dsk.mlen {w : World} {F : List Nat} {g n : Nat} {D : DiskSt} (h : Dsk w F g n D) : D.M.length ≤ n := by
  have hok := h.ok
  obtain ⟨gb, c, gm, O, oc, L, V, hp⟩ := h.parts
  have := keys_len n _ hp.nodupM (fun x hx => by
    obtain ⟨p, hp, rfl⟩ := List.mem_map.1 hx
    have := hok.M p hp
    exact ⟨this.1, this.2.1⟩)
  rwa [List.length_map] at this
end Go.Proofs.YtihljjfnjclefaaDoor
/- A disk: the walk through Crash. -/
set_option linter.unusedVariables false
set_option linter.unusedSimpArgs false
namespace Go.Proofs.YtihljjfnjclefaaDoor
open Go.ChangeShapes Go.WideShapes Go.ChangeAt Go.RowKit Go.MapKept

theorem row3 {W : World} {g : Nat} {a b c : Value} {t : TypeId} {fr : Nat × Nat} (h : W.heap[g]? = some (.cells #[a, b, c] t fr)) :
    W.cell? ⟨g, 0, none⟩ = some a ∧ W.cell? ⟨g, 1, none⟩ = some b ∧ W.cell? ⟨g, 2, none⟩ = some c := by
  refine ⟨?_, ?_, ?_⟩ <;> (rw [cell_of_row _ _ _ _ _ _ h]; rfl)
end Go.Proofs.YtihljjfnjclefaaDoor
/- Sectors: the walks through row, slices.Clone of ints, Cached, tallymankit.Ints. -/
set_option linter.unusedVariables false
set_option linter.unusedSimpArgs false
namespace Go.Proofs.YtihljjfnjclefaaDoor
open Go.ChangeShapes Go.WideShapes Go.ChangeAt Go.RowKit Go.MapKept
attribute [local go_sem] nb_nonneg nb_lt8

theorem Own.cellset0 {w : World} {base n g : Nat} {c : Nat} {xs : List Byte} (h : Own w base (.slice (some ⟨g, 0, none⟩) n c) xs) {j : Nat} (hj : j < xs.length) :
    w.cell? ⟨g, j, none⟩ = some (vb xs[j]) ∧ w.frozen? ⟨g, j, none⟩ = false ∧ ∀ b : Byte, Own (w.setCell ⟨g, j, none⟩ (vb b)) base (.slice (some ⟨g, 0, none⟩) n c) (xs.set j b) := by
  obtain ⟨_, _, h3, hn, _⟩ := Own.info h
  subst hn
  have hr := h
  unfold Own OwnV at hr
  rw [vbs_length] at hr
  refine ⟨?_, World.ownsRow.frozenAt hr j, fun b => ?_⟩
  · rw [World.ownsRow.cellAt hr j (by omega), vbs_get? xs j hj]
  · have := (World.ownsRow.stored hr j (vb b)).1
    unfold Own OwnV
    rw [vbs_length, List.length_set, show vbs (xs.set j b) = (vbs xs).set j (vb b) from by simp [vbs, List.map_set]]
    exact this
theorem fill_set (v : Byte) (j n : Nat) (h : j < n) : (List.replicate j v ++ List.replicate (n - j) 0#8).set j v = List.replicate (j + 1) v ++ List.replicate (n - (j + 1)) 0#8 := by
  rw [List.set_append_right _ _ (by simp), List.length_replicate, Nat.sub_self, show n - j = (n - (j + 1)) + 1 by omega, List.replicate_succ, List.set_cons_zero, List.replicate_succ' (n := j), List.append_assoc]; rfl
set_option maxRecDepth 100000 in
set_option maxHeartbeats 400000 in
theorem sl_CloneI (zs : List Int) (A : Option Addr) (n c : Nat) (w : World) (hn : n = zs.length) (hm : zs.length ≤ 1000000000) (hr : RdV w A (zs.map (.int .i64))) :
    Calls Tryd.prog 60 #[.slice A n c] w fun e w' => ∃ A' c', e = .returned (.slice A' n c') ∧ RdV w' A' (zs.map (.int .i64)) ∧ FB w w' ∧ ∀ ad, A' = some ad → w.heap.size ≤ ad.block := by
  subst hn
  have HR := Lib.hid hr
  cases A with
  | none =>
    have hx : zs = [] := by
      cases zs with
      | nil => rfl
      | cons y ys => obtain ⟨b, o, e, _⟩ := hr 0 (by simp); cases e
    subst hx
    have hq : ∀ W, (binOp .eql 48 (.slice none 0 c) (.slice none 0 0)).run Tryd.prog W = .ok (.bool true) W := fun W => Lib.run_eql_slice_nil W _ 3 none _ c 0 0 Tryd.underlying48
    clear hr
    simp only [List.length_nil]
    go_enter Tryd.func60, Tryd.ntmps60
    go_wp2
    go_ret
    exact ⟨none, 0, rfl, RdV.nil _ _, FB.refl _, fun ad ha => (by cases ha)⟩
  | some ad =>
    have hq : ∀ W, (binOp .eql 48 (.slice (some ad) zs.length c) (.slice none 0 0)).run Tryd.prog W = .ok (.bool false) W := fun W => Lib.run_eql_slice_nil W _ 3 (some ad) _ c 0 0 Tryd.underlying48
    clear hr
    go_enter Tryd.func60, Tryd.ntmps60
    go_wp2_with (at_builtin; refine wpList_append_any rfl _ _ 48 3 8 (.int .i64 0) Tryd.underlying48 info_int rfl rfl w.heap.size _ [] (OwnV.lit _ w [] (by simp)) rfl (some ad) _ c (zs.map (.int .i64)) (by simp) rfl (HR.out.alloc _) (by simp [Value.oneCell']) (by simp [maxLen]; omega) (by simp; omega) (by simp) ?_; intro v' w1 ho hg _; have HO := Lib.hid ho; have HG := Lib.hid hg; clear ho hg)
    go_ret
    have ho := HO.out
    rw [List.nil_append] at ho
    obtain ⟨A', c', e1, -, -, h3, h4⟩ := OwnV.form ho
    rw [List.length_map] at e1
    exact ⟨A', c', by simp [e1], h3, ((FB.refl w).alloc _).grown HG.out (by simp [Value.ownBlock]), fun ad ha => (h4 ad ha).1⟩
/-- The order, as Cached returns it. -/
theorem Dsk.ordr {w : World} {F : List Nat} {g n : Nat} {D : DiskSt} (h : Dsk w F g n D) : ∃ O oc, w.cell? ⟨g, 2, none⟩ = some (.slice O D.M.length oc) ∧ RdV w O ((D.M.map (·.1)).map (.int .i64)) := by
  obtain ⟨gb, c, gm, O, oc, L, V, hp⟩ := h.parts
  have h2 := (row4 hp.row).2.2.1
  rw [List.length_map] at h2
  exact ⟨O, oc, h2, (OwnV.info hp.order).2.2.1⟩
set_option maxRecDepth 100000 in
set_option maxHeartbeats 400000 in
theorem dsk_Cached {w : World} {F : List Nat} {g n : Nat} {D : DiskSt} (h : Dsk w F g n D) :
    Calls Tryd.prog 34 #[.pointer (some ⟨g, 0, none⟩)] w fun e w' => ∃ A c, e = .returned (.slice A D.M.length c) ∧ RdV w' A ((D.M.map (·.1)).map (.int .i64)) ∧ FB w w' ∧ ∀ ad, A = some ad → w.heap.size ≤ ad.block := by
  have H := Lib.hid h
  obtain ⟨O, oc, q2, hr⟩ := h.ordr
  have HR := Lib.hid hr
  have HML := Lib.hid (Nat.le_trans h.mlen h.ok.n2)
  clear h hr
  go_enter Tryd.func34, Tryd.ntmps34
  go_wp2_with fail
  refine (dsk_made H.out).mono ?_
  rintro e w1 ⟨rfl, rfl⟩
  go_wp2_with fail
  refine (sl_CloneI (D.M.map (·.1)) O _ oc _ (by rw [List.length_map]) (by rw [List.length_map]; have := HML.out; omega) HR.out).mono ?_
  rintro e w1 ⟨A1, c1, rfl, hr1, hf, ha1⟩
  have HR1 := Lib.hid hr1
  have HF1 := Lib.hid hf
  have HA1 := Lib.hid ha1
  clear hr1 hf ha1
  go_wp2
  go_ret
  exact ⟨A1, c1, rfl, HR1.out, HF1.out, HA1.out⟩
end Go.Proofs.YtihljjfnjclefaaDoor
/- page over a disk: the walks through Pages, right, Load, Save. -/
set_option linter.unusedVariables false
set_option linter.unusedSimpArgs false
namespace Go.Proofs.YtihljjfnjclefaaDoor
open Go.ChangeShapes Go.WideShapes Go.ChangeAt Go.RowKit Go.MapKept

theorem TS.grown {w w' : World} {row : Option Nat} (h : w.grownBy w' row) : TS row.toList w w' :=
  ⟨h.os, h.tape, h.output, h.size, fun k hk hm => h.block k hk (fun e => hm (by rw [← e]; simp))⟩
theorem div8 (n : Nat) : ((n : Int)).tdiv 8 = ((n / 8 : Nat) : Int) := by rw [Int.tdiv_eq_ediv_of_nonneg (by omega)]; omega
set_option maxRecDepth 100000 in
set_option maxHeartbeats 400000 in
theorem pg_Pages {w : World} {F : List Nat} {g n : Nat} {D : DiskSt} (h : Dsk w F g n D) :
    Calls Tryd.prog 24 #[.pointer (some ⟨g, 0, none⟩)] w fun e w' => e = .returned (.int .i64 ((n / 8 : Nat) : Int)) ∧ w = w' := by
  have H := Lib.hid h
  have hd := div8 n
  have hn := h.ok.n2
  have hwr : IntKind.i64.wrap (((n / 8 : Nat) : Int)) = ((n / 8 : Nat) : Int) := by rw [IntKind.wrap_i64]; omega
  clear h
  generalize hm : n / 8 = m at *
  clear hm
  go_enter Tryd.func24, Tryd.ntmps24
  go_wp2_with fail
  refine (dsk_Sectors H.out).mono ?_
  rintro e w1 ⟨rfl, rfl⟩
  go_wp2
  go_ret
  first | exact ⟨rfl, rfl⟩ | exact ⟨by simp [hd], rfl⟩
def pgOut (n : Nat) (k : Int) : Prop := k < 0 ∨ ((n / 8 : Nat) : Int) ≤ k
instance (n : Nat) (k : Int) : Decidable (pgOut n k) := inferInstanceAs (Decidable (_ ∨ _))
set_option maxRecDepth 100000 in
set_option maxHeartbeats 400000 in
theorem pg_right {w : World} {F : List Nat} {g n : Nat} {D : DiskSt} (h : Dsk w F g n D) (k : Int) :
    Calls Tryd.prog 47 #[.pointer (some ⟨g, 0, none⟩), .int .i64 k] w fun e w' => e = .returned (.int .i64 (if pgOut n k then 2 else 0)) ∧ w = w' := by
  have H := Lib.hid h
  have hn := h.ok.n1
  have hn0 : ((n : Int) == 0) = false := by simp; omega
  clear h
  by_cases hneg : k < 0
  · rw [if_pos (.inl hneg)]
    go_enter Tryd.func47, Tryd.ntmps47
    go_wp2_with fail
    refine (dsk_Sectors H.out).mono ?_
    rintro e w1 ⟨rfl, rfl⟩
    go_wp2
    go_ret
    exact ⟨rfl, rfl⟩
  · by_cases hbig : ((n / 8 : Nat) : Int) ≤ k
    · rw [if_pos (.inr hbig)]
      have HB := Lib.hid hbig
      clear hbig
      go_enter Tryd.func47, Tryd.ntmps47
      go_wp2_with fail
      refine (dsk_Sectors H.out).mono ?_
      rintro e w1 ⟨rfl, rfl⟩
      go_wp2_with fail
      refine (pg_Pages H.out).mono ?_
      rintro e w1 ⟨rfl, rfl⟩
      have hbig := HB.out
      generalize ((n / 8 : Nat) : Int) = m at *
      go_wp2
      go_ret
      exact ⟨rfl, rfl⟩
    · rw [if_neg (by unfold pgOut; omega)]
      have HB := Lib.hid hbig
      clear hbig
      go_enter Tryd.func47, Tryd.ntmps47
      go_wp2_with fail
      refine (dsk_Sectors H.out).mono ?_
      rintro e w1 ⟨rfl, rfl⟩
      go_wp2_with fail
      refine (pg_Pages H.out).mono ?_
      rintro e w1 ⟨rfl, rfl⟩
      have hbig := HB.out
      generalize ((n / 8 : Nat) : Int) = m at *
      go_wp2
      go_ret
      exact ⟨rfl, rfl⟩
/-- The sectors of a page, one by one. -/
def ldF (n : Nat) (k : Int) : Nat → Nat → List Byte → DiskSt → List Byte × Int × DiskSt
  | 0, _, out, D => (out, 0, D)
  | r + 1, i, out, D => if (sdRead D n (k * 8 + i)).2.1 = 0 then ldF n k r (i + 1) (out ++ (sdRead D n (k * 8 + i)).1) (sdRead D n (k * 8 + i)).2.2 else ([], (sdRead D n (k * 8 + i)).2.1, (sdRead D n (k * 8 + i)).2.2)
def sdLoad (D : DiskSt) (n : Nat) (k : Int) : List Byte × Int × DiskSt := if pgOut n k then ([], 2, D) else ldF n k 8 0 [] D
theorem sec_le (b : List Byte) (k : Nat) : (sec b k).length ≤ 512 := by unfold sec; rw [List.length_take]; omega
theorem cget_len {M : List (Int × List Byte)} {m : Nat} (hM : ∀ p ∈ M, p.2.length ≤ m) {k : Int} {x : List Byte} (h : cget M k = some x) : x.length ≤ m := by
  induction M with
  | nil => cases h
  | cons p M ih =>
    obtain ⟨k', v⟩ := p
    rw [cget] at h
    split at h
    · cases h; exact hM (k', x) (by simp)
    · exact ih (fun p hp => hM p (by simp [hp])) h
theorem sdRead_le {D : DiskSt} {n : Nat} (h : D.ok n) (k : Int) : (sdRead D n k).1.length ≤ 512 := by
  unfold sdRead
  split
  · simp
  · split
    · simp
    · simp only
      cases hc : cget D.M k with
      | none => exact sec_le _ _
      | some x => exact cget_len (fun p hp => by have := h.M p hp; omega) hc
set_option maxRecDepth 100000 in
set_option maxHeartbeats 2000000 in
theorem pg_Load {w : World} {F : List Nat} {g n : Nat} {D : DiskSt} (h : Dsk w F g n D) (k : Int) :
    Calls Tryd.prog 21 #[.pointer (some ⟨g, 0, none⟩), .int .i64 k] w fun e w' => ∃ A c, e = .returned (.tuple #[.slice A (sdLoad D n k).1.length c, .int .i64 (sdLoad D n k).2.1]) ∧ Rd w' A (sdLoad D n k).1 ∧ (∀ ad, A = some ad → w.heap.size ≤ ad.block) ∧ Dsk w' F g n (sdLoad D n k).2.2 ∧ TS F w w' ∧ (sdLoad D n k).1.length ≤ c ∧ c ≤ maxLen := by
  have H := Lib.hid h
  have HR := Lib.hid (pg_right h k)
  have HF := Lib.hid h.lt
  have HN := Lib.hid h.ok.n2
  obtain ⟨R, hR⟩ : ∃ R, R = sdLoad D n k := ⟨_, rfl⟩
  rw [← hR]
  unfold sdLoad at hR
  clear h
  by_cases ho : pgOut n k
  · rw [if_pos ho] at hR
    rw [if_pos ho] at HR
    subst hR
    clear ho
    go_enter Tryd.func21, Tryd.ntmps21
    go_wp2_with fail
    refine HR.out.mono ?_
    rintro e w1 ⟨rfl, rfl⟩
    go_wp2
    go_ret2
    exact ⟨none, 0, rfl, Rd.nil _ _, fun ad ha => (by cases ha), H.out, TS.refl _ _, by simp, by simp [maxLen]⟩
  · rw [if_neg ho] at hR
    rw [if_neg ho] at HR
    have HK := Lib.hid (show 0 ≤ k ∧ k < ((n / 8 : Nat) : Int) from by unfold pgOut at ho; omega)
    have HRR := Lib.hid hR
    clear ho hR
    go_enter Tryd.func21, Tryd.ntmps21
    go_wp2_with fail
    refine HR.out.mono ?_
    rintro e w1 ⟨rfl, rfl⟩
    go_wp2_with fail
    go_loopw [7, 17] (fun v i wr => ∃ (j : Nat) (out : List Byte) (D' : DiskSt), j ≤ 8 ∧ i = .int .i64 j ∧ Hid (out.length ≤ 512 * j) ∧ Hid (Own wr w.heap.size v out) ∧ Hid (Dsk wr F g n D') ∧ Hid (TS F w wr) ∧ Hid (R = ldF n k (8 - j) j out D')) (fun _ i _ => 8 - (intOf i).toNat)
    case atStart => exact ⟨0, [], D, by omega, rfl, Lib.hid (by simp), Lib.hid (Own.nil _ _), H, Lib.hid (TS.refl _ _), HRR⟩
    case round =>
      obtain ⟨j, out, D', hj, rfl, HOL, HO, HD, HT, HRJ⟩ := hrel
      by_cases hlt : j < 8
      · have hz : (j : Int) < 8 := by omega
        have hw1 : IntKind.i64.wrap (k * 8) = k * 8 := by rw [IntKind.wrap_i64]; have := HK.out; have := HN.out; omega
        have hw2 : IntKind.i64.wrap (k * 8 + (j : Int)) = k * 8 + (j : Int) := by rw [IntKind.wrap_i64]; have := HK.out; have := HN.out; omega
        have hw3 : IntKind.i64.wrap ((j : Int) + 1) = (j : Int) + 1 := by rw [IntKind.wrap_i64]; omega
        have HJ := Lib.hid hlt
        have hrj := HRJ.out
        rw [show 8 - j = (7 - j) + 1 from by omega, ldF] at hrj
        have HRJ2 := Lib.hid hrj
        have HRL := Lib.hid (sdRead_le HD.out.ok (k * 8 + (j : Int)))
        have HC := Lib.hid (dsk_Read HD.out (k * 8 + (j : Int)))
        generalize sdRead D' n (k * 8 + (j : Int)) = t at *
        obtain ⟨b, er, D2⟩ := t
        have HRL := Lib.hid (show b.length ≤ 512 from HRL.out)
        clear hlt hj hrj HRJ
        go_wp2_with fail
        refine HC.out.mono ?_
        rintro e w2 ⟨A9, c9, rfl, hr, hnew, hd, ht, hc9, hm9⟩
        try simp only at hr hd hc9
        have HR9 := Lib.hid hr
        have HD2 := Lib.hid hd
        have HT2 := Lib.hid (HT.out.then ht)
        have HOF := Lib.hid (OwnV.base HO.out)
        have HO2 := Lib.hid (ht.ownV HO.out (fun kk hk hm => by have h1 := (HOF.out kk hk).1; have := HF.out kk hm; omega))
        clear hr hnew hd ht hc9 hm9 HC HO HD HT
        by_cases he : er = 0
        · subst he
          have hrj := HRJ2.out
          rw [if_pos rfl] at hrj
          have HRJ3 := Lib.hid hrj
          clear hrj HRJ2
          go_wp2_with (at_builtin; refine wpList_append_bytes rfl _ _ rfl w.heap.size _ out HO2.out rfl A9 c9 b rfl HR9.out (by have := HRL.out; have := HOL.out; have := HJ.out; omega) HT2.out.size ?_; intro v' w3 ho hg hob; have HO3 := Lib.hid ho; have HG := Lib.hid hg; clear ho hg hob)
          have HD3 := Lib.hid (HD2.out.ts (TS.grown HG.out) (fun x hx hm => by have h1 := (HOF.out x (by simpa using hx)).1; have := HF.out x hm; omega))
          have HT3 := Lib.hid (HT2.out.trans (TS.grown HG.out) (fun x hx => .inr (HOF.out x (by simpa using hx)).1))
          go_roundw
          case rel => exact ⟨j + 1, out ++ b, D2, by have := HJ.out; omega, by go_num, Lib.hid (by rw [List.length_append]; have := HRL.out; have := HOL.out; omega), HO3, HD3, HT3, Lib.hid (by rw [show 8 - (j + 1) = 7 - j by omega]; exact HRJ3.out)⟩
          case measure => (show 8 - ((j : Int) + 1).toNat < 8 - ((j : Int)).toNat; have := HJ.out; omega)
        · have heb : (er != 0) = true := by simpa using he
          have hrj := HRJ2.out
          rw [if_neg he] at hrj
          have HRJ3 := Lib.hid hrj
          clear hrj HRJ2 he
          go_wp2
          go_ret2
          rw [HRJ3.out]
          exact ⟨none, 0, rfl, Rd.nil _ _, fun ad ha => (by cases ha), HD2.out, HT2.out, by simp, by simp [maxLen]⟩
      · obtain rfl : j = 8 := by omega
        have hq := HRJ.out
        rw [ldF] at hq
        have HQ := Lib.hid hq
        obtain ⟨A7, c7, rfl, h1, h2, h3, h4⟩ := Own.form HO.out
        have HE := Lib.hid (And.intro (And.intro h1 h2) (And.intro h3 h4))
        clear hq HRJ HO h1 h2 h3 h4
        go_wp2
        go_ret2
        rw [HQ.out]
        exact ⟨A7, c7, rfl, HE.out.2.1, fun ad ha => (HE.out.2.2 ad ha).1, HD.out, HT.out, HE.out.1.1, HE.out.1.2⟩
end Go.Proofs.YtihljjfnjclefaaDoor
/- page over a disk: the walk through Save. -/
set_option linter.unusedVariables false
set_option linter.unusedSimpArgs false
namespace Go.Proofs.YtihljjfnjclefaaDoor
open Go.ChangeShapes Go.WideShapes Go.ChangeAt Go.RowKit Go.MapKept

def svF (n : Nat) (k : Int) (xs : List Byte) : Nat → Nat → DiskSt → Int × DiskSt
  | 0, _, D => (0, D)
  | r + 1, i, D => if (sdWrite D n (k * 8 + i) (sec xs i)).1 = 0 then svF n k xs r (i + 1) (sdWrite D n (k * 8 + i) (sec xs i)).2 else sdWrite D n (k * 8 + i) (sec xs i)
def sdSave (D : DiskSt) (n : Nat) (k : Int) (xs : List Byte) : Int × DiskSt := if pgOut n k ∨ xs.length ≠ 4096 then (2, D) else svF n k xs 8 0 D
set_option maxRecDepth 100000 in
theorem pg_SaveD (p q : Addr) (v z : Int) (w : World) (hc : w.cell? p = some (.int .i64 v)) (hq : w.cell? q = some (.int .i64 z)) (hz : w.frozen? q = false) :
    CallsD Tryd.prog 50 #[.pointer (some p), .pointer (some q)] .returning w fun e u' w' => u' = .returning ∧ (e = .returned (.tuple #[]) ∧ w' = w.setCell q (.int .i64 v)) := by
  go_enter_d Tryd.func50, Tryd.ntmps50
  go_wp2
  go_end0
  exact ⟨rfl, rfl⟩
theorem row1 {W : World} {g : Nat} {a : Value} {t : TypeId} {fr : Nat × Nat} (h : W.heap[g]? = some (.cells #[a] t fr)) : W.cell? ⟨g, 0, none⟩ = some a := by rw [cell_of_row _ _ _ _ _ _ h]; rfl
set_option maxRecDepth 100000 in
theorem sv_door {w W : World} {F F2 : List Nat} {g n : Nat} {D2 : DiskSt} {er : Int} {a : Act} {R : Int × DiskSt} (hR : R = (er, D2))
    (h8 : W.heap[w.heap.size + 1]? = some (.cells #[.int .i64 er] 27 (0, 0))) (h6 : W.heap[w.heap.size]? = some (.cells #[.int .i64 0] 27 (0, 0)))
    (hd : Dsk W F2 g n D2) (hf : ∀ x ∈ F2, x ∈ F ∨ w.heap.size + 2 ≤ x) (hF : ∀ x ∈ F, x < w.heap.size) (ht : TS F w W)
    (ha : a.defers = [{ target := .fn (.func 50) #[.pointer (some ⟨w.heap.size + 1, 0, none⟩), .pointer (some ⟨w.heap.size, 0, none⟩)], args := #[] }]) (h6s : a.tmps[6]?.getD undef = .pointer (some ⟨w.heap.size, 0, none⟩)) :
    bodyPostD Tryd.prog Tryd.f23 (fun e w' => e = .returned (.int .i64 R.1) ∧ DskRes w F g n R.2 w') .ret a (W.setCell ⟨w.heap.size, 0, none⟩ (.int .i64 er)) := by
  subst hR
  show Leaves _ _ a.tmps _ a.defers .returning _
  rw [ha]
  refine leaves_cons (f := 50) (args := #[.pointer (some ⟨w.heap.size + 1, 0, none⟩), .pointer (some ⟨w.heap.size, 0, none⟩)]) (by simp) (by simp [go_sem]) ?_
  have hne : ∀ {U : World} {v : Value} , TS [w.heap.size] U (U.setCell ⟨w.heap.size, 0, none⟩ v) := fun {U v} => TS.tb (TB.set U 0 v) (by simp)
  have k6 : (W.setCell ⟨w.heap.size, 0, none⟩ (.int .i64 er)).heap[w.heap.size]? = some (.cells #[.int .i64 er] 27 (0, 0)) := by rw [heap_setCell_same _ _ 0 _ _ _ h6]; rfl
  have k8 := ((hne (U := W) (v := .int .i64 er)).block _ (Array.getElem?_eq_some_iff.1 h8).1 (by simp)).trans h8
  refine (pg_SaveD ⟨w.heap.size + 1, 0, none⟩ ⟨w.heap.size, 0, none⟩ er er _ (row1 k8) (row1 k6) (frozen_row _ k6 0)).mono ?_
  rintro e u' w'' ⟨rfl, rfl, rfl⟩
  have m6 : ((W.setCell ⟨w.heap.size, 0, none⟩ (.int .i64 er)).setCell ⟨w.heap.size, 0, none⟩ (.int .i64 er)).heap[w.heap.size]? = some (.cells #[.int .i64 er] 27 (0, 0)) := by rw [heap_setCell_same _ _ 0 _ _ _ k6]; rfl
  have hn : ∀ x ∈ [w.heap.size], x ∉ F2 := fun x hx hm => by
    simp only [List.mem_singleton] at hx; subst hx
    rcases hf _ hm with h | h
    · have := hF _ h; omega
    · omega
  refine ⟨.int .i64 er, ?_, rfl, F2, fun x hx => (hf x hx).imp id (fun h => by omega), (hd.ts hne hn).ts hne hn, (ht.trans hne (fun x hx => .inr (by simp at hx; omega))).trans hne (fun x hx => .inr (by simp at hx; omega))⟩
  have hc := row1 m6
  simp [results, Tryd.results23, go_sem, h6s, hc]
set_option maxRecDepth 100000 in
set_option maxHeartbeats 4000000 in
theorem pg_Save {w : World} {F : List Nat} {g n : Nat} {D : DiskSt} (h : Dsk w F g n D) (k : Int) (A : Option Addr) (ca : Nat) (xs : List Byte) (hl : xs.length ≤ 100000000000) (hca : xs.length ≤ ca) (hr : Rd w A xs) (hAF : ∀ ad, A = some ad → ad.block ∉ F) :
    Calls Tryd.prog 23 #[.pointer (some ⟨g, 0, none⟩), .int .i64 k, .slice A xs.length ca] w fun e w' => e = .returned (.int .i64 (sdSave D n k xs).1) ∧ DskRes w F g n (sdSave D n k xs).2 w' := by
  have hmf : ∀ (fn : Fn) (first cap : Array Value) (w : World), (Instr.makeFunc fn first cap).run Tryd.prog w = .ok (.func fn first cap) w := fun _ _ _ _ => rfl
  have HR := Lib.hid (pg_right (h.fb ((FB.refl w).alloc (.cells #[.int .i64 0] 27))) k)
  have HF := Lib.hid h.lt
  have HN := Lib.hid h.ok.n2
  have H0 := Lib.hid h
  have HX := Lib.hid hr
  have HAF := Lib.hid hAF
  obtain ⟨R, hR⟩ : ∃ R, R = sdSave D n k xs := ⟨_, rfl⟩
  rw [← hR]
  unfold sdSave at hR
  clear h hr hAF
  by_cases ho : pgOut n k
  · rw [if_pos (.inl ho)] at hR
    rw [if_pos ho] at HR
    subst hR
    clear ho hl hca
    go_enter_defers Tryd.func23, Tryd.ntmps23
    go_wp2_with fail
    refine HR.out.mono ?_
    rintro e w1 ⟨rfl, rfl⟩
    go_wp2
    refine ⟨.int .i64 2, ?_, rfl, F, fun x hx => .inl hx, H0.out.fb ((FB.refl w).alloc _), TS.of ((FB.refl w).alloc _)⟩
    simp [results, Tryd.results23, go_sem]
  · rw [if_neg ho] at HR
    have HK := Lib.hid (show 0 ≤ k ∧ k < ((n / 8 : Nat) : Int) from by unfold pgOut at ho; omega)
    by_cases hx : xs.length = 4096
    · rw [if_neg (by simp [ho, hx])] at hR
      have HRR := Lib.hid hR
      have HXL := Lib.hid hx
      have HCA := Lib.hid hca
      rw [hx]
      clear ho hR hx hca hl
      go_enter_defers Tryd.func23, Tryd.ntmps23
      go_wp2_with fail
      refine HR.out.mono ?_
      rintro e w1 ⟨rfl, rfl⟩
      go_wp2_with fail
      have HWA := Lib.hid (show FB w ((w.alloc (.cells #[.int .i64 0] 27)).alloc (.cells #[.int .i64 0] 27)) from ((FB.refl w).alloc _).alloc _)
      have HB6 := Lib.hid (show ((w.alloc (.cells #[.int .i64 0] 27)).alloc (.cells #[.int .i64 0] 27)).heap[w.heap.size]? = some (.cells #[.int .i64 0] 27 (0, 0)) from heap_alloc2_old _ _ _)
      have HB8 := Lib.hid (show ((w.alloc (.cells #[.int .i64 0] 27)).alloc (.cells #[.int .i64 0] 27)).heap[w.heap.size + 1]? = some (.cells #[.int .i64 0] 27 (0, 0)) from by
        have := heap_alloc_new (w.alloc (.cells #[.int .i64 0] 27)) (.cells #[.int .i64 0] 27)
        simpa using this)
      have HWS := Lib.hid (show ((w.alloc (.cells #[.int .i64 0] 27)).alloc (.cells #[.int .i64 0] 27)).heap.size = w.heap.size + 2 from by simp)
      have HD0 := Lib.hid (H0.out.fb HWA.out)
      have HX2 := Lib.hid (HWA.out.rd HX.out)
      have HXB := Lib.hid (show ∀ ad, A = some ad → ad.block < w.heap.size from fun ad ha => by
        obtain ⟨b, o, e2, h2, -⟩ := Rd.form HX.out (by have := HXL.out; omega)
        rw [ha] at e2; cases e2; exact h2)
      generalize (w.alloc (.cells #[.int .i64 0] 27)).alloc (.cells #[.int .i64 0] 27) = W2 at *
      go_loopw [20] (fun i wr => ∃ (j : Nat) (D' : DiskSt) (F' : List Nat), j ≤ 8 ∧ i = .int .i64 j ∧ Hid (Dsk wr F' g n D') ∧ Hid (∀ x ∈ F', x ∈ F ∨ w.heap.size + 2 ≤ x) ∧ Hid (TS ((w.heap.size + 1) :: F) W2 wr) ∧ Hid (wr.heap[w.heap.size + 1]? = some (.cells #[.int .i64 0] 27 (0, 0))) ∧ Hid (R = svF n k xs (8 - j) j D')) (fun i _ => 8 - (intOf i).toNat)
      case atStart => exact ⟨0, D, F, by omega, rfl, HD0, Lib.hid (fun x hx => .inl hx), Lib.hid (TS.refl _ _), HB8, HRR⟩
      case round =>
        obtain ⟨j, D', F', hj, rfl, HD, HFF, HT, HC8, HRJ⟩ := hrel
        have HWL := Lib.hid (show w.heap.size + 2 ≤ wr.heap.size from by have := HT.out.size; have := HWS.out; omega)
        have HN6 := Lib.hid (show w.heap.size ∉ (w.heap.size + 1) :: F from fun hm => by
          rcases List.mem_cons.1 hm with hm | hm
          · omega
          · have := HF.out _ hm; omega)
        have HC6 := Lib.hid ((HT.out.block _ (Array.getElem?_eq_some_iff.1 HB6.out).1 HN6.out).trans HB6.out)
        have HFN := Lib.hid (show w.heap.size ∉ F' ∧ w.heap.size + 1 ∉ F' from ⟨fun hm => by
            rcases HFF.out _ hm with hm | hm
            · have := HF.out _ hm; omega
            · omega, fun hm => by
            rcases HFF.out _ hm with hm | hm
            · have := HF.out _ hm; omega
            · omega⟩)
        by_cases hlt : j < 8
        · have hz : (j : Int) < 8 := by omega
          have HJ := Lib.hid hlt
          have hw1 : IntKind.i64.wrap (k * 8) = k * 8 := by rw [IntKind.wrap_i64]; have := HK.out; have := HN.out; omega
          have hw2 : IntKind.i64.wrap (k * 8 + (j : Int)) = k * 8 + (j : Int) := by rw [IntKind.wrap_i64]; have := HK.out; have := HN.out; omega
          have hw3 : IntKind.i64.wrap ((j : Int) + 1) = (j : Int) + 1 := by rw [IntKind.wrap_i64]; omega
          obtain ⟨kk, hkk⟩ : ∃ kk, kk = 512 * j := ⟨_, rfl⟩
          have hw4 : IntKind.i64.wrap ((j : Int) * 512) = (kk : Int) := by rw [IntKind.wrap_i64]; omega
          have hw5 : IntKind.i64.wrap (((j : Int) + 1) * 512) = (kk : Int) + 512 := by rw [IntKind.wrap_i64]; omega
          obtain ⟨A34, hcut, hcr, hcb⟩ := cut_at A ca xs kk 512 (by rw [HXL.out]; omega) HCA.out
          rw [HXL.out] at hcut
          have hcut : ∀ W, (Instr.slice 23 (.slice A 4096 ca) (some (.int .i64 (kk : Int))) (some (.int .i64 ((kk : Int) + 512))) none).run Tryd.prog W = .ok (.slice A34 512 (ca - kk)) W := hcut
          have hsl : (sec xs j).length = 512 := sec_len (n := 8) HXL.out hlt
          have hrs : Rd wr A34 (sec xs j) := by
            have := hcr wr (HT.out.rd HX2.out (fun ad ha hm => by
              rcases List.mem_cons.1 hm with hm | hm
              · have := HXB.out ad ha; omega
              · exact HAF.out ad ha hm))
            rw [hkk] at this
            exact this
          have hA34 : ∀ ad, A34 = some ad → ad.block < w.heap.size ∧ ad.block ∉ F := fun ad ha => by
            have hq := hcb (by have := HCA.out; have := HXL.out; omega)
            rw [hq] at ha
            cases A with
            | none => cases ha
            | some a0 =>
              have hb0 : ad.block = a0.block := by
                simp only [Option.map_some, Option.some.injEq] at ha
                rw [← ha]; unfold Addr.add; split <;> rfl
              rw [hb0]
              exact ⟨HXB.out a0 rfl, HAF.out a0 rfl⟩
          have HC := Lib.hid (dsk_Write HD.out (k * 8 + (j : Int)) A34 512 (ca - kk) (sec xs j) hsl.symm (by rw [hsl]; omega) hrs (fun ad ha hm => by
            rcases HFF.out _ hm with hm | hm
            · exact (hA34 ad ha).2 hm
            · have := (hA34 ad ha).1; omega))
          have hrj := HRJ.out
          rw [show 8 - j = (7 - j) + 1 from by omega, svF] at hrj
          have HRJ2 := Lib.hid hrj
          generalize sdWrite D' n (k * 8 + (j : Int)) (sec xs j) = t at *
          obtain ⟨er, D2⟩ := t
          clear hrj HRJ hcr hcb hsl hrs hA34 hkk hlt hj
          go_wp2_with fail
          refine HC.out.mono ?_
          rintro e w2 ⟨rfl, F2, hf2, hd2, ht2⟩
          have HD2 := Lib.hid hd2
          have HF2 := Lib.hid (show ∀ x ∈ F2, x ∈ F ∨ w.heap.size + 2 ≤ x from fun x hx => by
            rcases hf2 x hx with h | h
            · exact HFF.out x h
            · right; have := HWL.out; omega)
          have HT2 := Lib.hid (HT.out.trans ht2 (fun x hx => by
            rcases HFF.out x hx with h | h
            · exact .inl (List.mem_cons_of_mem _ h)
            · right; have := HWS.out; omega))
          have HC82 := Lib.hid ((ht2.block _ (Array.getElem?_eq_some_iff.1 HC8.out).1 HFN.out.2).trans HC8.out)
          have HC62 := Lib.hid ((ht2.block _ (Array.getElem?_eq_some_iff.1 HC6.out).1 HFN.out.1).trans HC6.out)
          have HFN2 := Lib.hid (show w.heap.size ∉ F2 ∧ w.heap.size + 1 ∉ F2 from ⟨fun hm => by
            rcases HF2.out _ hm with hm | hm
            · have := HF.out _ hm; omega
            · omega, fun hm => by
            rcases HF2.out _ hm with hm | hm
            · have := HF.out _ hm; omega
            · omega⟩)
          have q8 := row1 HC82.out
          have f8 := frozen_row _ HC82.out 0
          have HC83 := Lib.hid (show (w2.setCell ⟨w.heap.size + 1, 0, none⟩ (.int .i64 er)).heap[w.heap.size + 1]? = some (.cells #[.int .i64 er] 27 (0, 0)) from by
            rw [heap_setCell_same _ _ 0 _ _ _ HC82.out]; rfl)
          have HTB := Lib.hid (show TS [w.heap.size + 1] w2 (w2.setCell ⟨w.heap.size + 1, 0, none⟩ (.int .i64 er)) from TS.tb (TB.set w2 0 _) (by simp))
          have HC63 := Lib.hid ((HTB.out.block _ (Array.getElem?_eq_some_iff.1 HC62.out).1 (by simp)).trans HC62.out)
          have HD3 := Lib.hid (HD2.out.ts HTB.out (fun x hx => by simp only [List.mem_singleton] at hx; subst hx; exact HFN2.out.2))
          have HT3 := Lib.hid (HT2.out.trans HTB.out (fun x hx => by simp only [List.mem_singleton] at hx; subst hx; exact .inl (by simp)))
          clear hf2 hd2 ht2 HC hcut hw4 hw5 HD HT HC8 HC6 HD2 HT2 HC62 HFN HN6
          by_cases he : er = 0
          · subst he
            have hrj := HRJ2.out
            rw [if_pos rfl] at hrj
            have HRJ3 := Lib.hid hrj
            clear hrj HRJ2
            go_upto_region 12 with fail
            clear q8 f8
            have q8 := row1 HC83.out
            generalize w2.setCell ⟨w.heap.size + 1, 0, none⟩ (.int .i64 0) = w3 at *
            go_wp2
            go_roundw
            case rel => exact ⟨j + 1, D2, F2, by have := HJ.out; omega, by go_num, HD3, HF2, HT3, HC83, Lib.hid (by rw [show 8 - (j + 1) = 7 - j by omega]; exact HRJ3.out)⟩
            case measure => (show 8 - ((j : Int) + 1).toNat < 8 - ((j : Int)).toNat; have := HJ.out; omega)
          · have heb : (er != 0) = true := by simpa using he
            have hrj := HRJ2.out
            rw [if_neg he] at hrj
            have HRJ3 := Lib.hid hrj
            clear hrj HRJ2 he
            go_upto_region 12 with fail
            clear q8 f8
            have q8 := row1 HC83.out
            have q6 := row1 HC63.out
            have f6 := frozen_row _ HC63.out 0
            generalize w2.setCell ⟨w.heap.size + 1, 0, none⟩ (.int .i64 er) = w3 at *
            go_wp2
            exact sv_door HRJ3.out HC83.out HC63.out HD3.out HF2.out HF.out (by
              have h1 := (TS.of (F := F) HWA.out).trans HT3.out (fun x hx => by
                rcases List.mem_cons.1 hx with hx | hx
                · right; omega
                · exact .inl hx)
              exact h1) rfl rfl
        · obtain rfl : j = 8 := by omega
          have hq := HRJ.out
          rw [svF] at hq
          have HRJ3 := Lib.hid hq
          have q8 := row1 HC8.out
          have q6 := row1 HC6.out
          have f6 := frozen_row _ HC6.out 0
          have HC83 := HC8
          have HC63 := HC6
          have HFN2 := HFN
          have HF2 := HFF
          have HD3 := HD
          have HT3 := HT
          clear hq HRJ HFN HD HT HFF HC8 HC6
          go_wp2
          exact sv_door HRJ3.out HC83.out HC63.out HD3.out HF2.out HF.out (by
            have h1 := (TS.of (F := F) HWA.out).trans HT3.out (fun x hx => by
              rcases List.mem_cons.1 hx with hx | hx
              · right; omega
              · exact .inl hx)
            exact h1) rfl rfl
    · rw [if_pos (.inr hx)] at hR
      subst hR
      have hxe : ((xs.length : Int) != 4096) = true := by rw [bne_iff_ne]; omega
      clear ho hx hl hca
      go_enter_defers Tryd.func23, Tryd.ntmps23
      go_wp2_with fail
      refine HR.out.mono ?_
      rintro e w1 ⟨rfl, rfl⟩
      go_wp2
      refine ⟨.int .i64 2, ?_, rfl, F, fun x hx => .inl hx, H0.out.fb ((FB.refl w).alloc _), TS.of ((FB.refl w).alloc _)⟩
      simp [results, Tryd.results23, go_sem]
end Go.Proofs.YtihljjfnjclefaaDoor
/- Sectors: the walk through tallymankit.Ints. -/
set_option linter.unusedVariables false
set_option linter.unusedSimpArgs false
namespace Go.Proofs.YtihljjfnjclefaaDoor
open Go.ChangeShapes Go.WideShapes Go.ChangeAt Go.RowKit Go.MapKept

theorem RdV.icell {w : World} {A : Option Addr} {zs : List Int} (h : RdV w A (zs.map (.int .i64))) {j : Nat} (hj : j < zs.length) : ∃ b o, A = some ⟨b, o, none⟩ ∧ w.cell? ⟨b, o + j, none⟩ = some (.int .i64 zs[j]) := by
  obtain ⟨b, o, e, -, h2⟩ := RdV.form h (by simp; omega)
  have := h2 j (by simpa using hj)
  rw [List.getElem_map] at this
  exact ⟨b, o, e, this⟩
set_option maxRecDepth 100000 in
set_option maxHeartbeats 1000000 in
theorem kit_Ints (zs ys : List Int) (A B : Option Addr) (n m ca cb : Nat) (w : World) (hn : n = zs.length) (hm : m = ys.length) (hz : zs.length ≤ 1000000000) (hy : ys.length ≤ 1000000000) (hra : RdV w A (zs.map (.int .i64))) (hrb : RdV w B (ys.map (.int .i64))) :
    Calls Tryd.prog 33 #[.slice A n ca, .slice B m cb] w fun e w' => e = .returned (.bool (decide (zs = ys))) ∧ FB w w' := by
  subst hn hm
  have HRA := Lib.hid hra
  have HRB := Lib.hid hrb
  by_cases hl : zs.length = ys.length
  · have HL := Lib.hid hl
    have hli : (zs.length : Int) = (ys.length : Int) := by omega
    have hne : ((zs.length : Int) != (ys.length : Int)) = false := by rw [hli]; simp
    generalize hC : decide (zs = ys) = C
    have HC := Lib.hid hC
    clear hra hrb hl hli hC
    go_enter Tryd.func33, Tryd.ntmps33
    go_wp2
    go_loopw [5] (fun i wr => ∃ j : Nat, j ≤ zs.length ∧ i = .int .i64 j ∧ Hid (zs.take j = ys.take j) ∧ Hid (FB w wr)) (fun i _ => zs.length - (intOf i).toNat)
    case atStart => exact ⟨0, by omega, rfl, by rfl, FB.refl _⟩
    case round =>
      obtain ⟨j, hj, rfl, HT, HF0⟩ := hrel
      by_cases hlt : j < zs.length
      · have hjy : j < ys.length := by have := HL.out; omega
        have hjx : (j : Int) < (zs.length : Int) := by omega
        have hjz : (j : Int) < (ys.length : Int) := by omega
        obtain ⟨a, oa, rfl, -⟩ := RdV.icell HRA.out hlt
        obtain ⟨b, ob, rfl, -⟩ := RdV.icell HRB.out hjy
        have HRA1 := Lib.hid (HF0.out.rdV HRA.out)
        have HRB1 := Lib.hid (HF0.out.rdV HRB.out)
        go_wp2_with fail
        obtain ⟨W0, hW0⟩ : ∃ W0 : World, W0 = wr := ⟨_, rfl⟩
        subst hW0
        refine region_sch (E := FB) ((0, true) :: (1, true) :: (2, true) :: (3, true) :: (4, true) :: (5, true) :: (6, true) :: (7, true) :: (8, true) :: []) (by kernel_rfl) FB.refl fb_trans (fun _ _ d _ _ h => by cases d <;> exact h) (by kernel_rfl) ?_
        intro ops hops0
        have hops := Lib.hid hops0
        clear hops0
        have HF : FB W0 W0.drew := (FB.refl _).drew
        generalize W0.drew = wF at *
        have HRA2 := Lib.hid (FB.rdV HF HRA1.out)
        have HRB2 := Lib.hid (FB.rdV HF HRB1.out)
        repeat (refine sch_take (o := ?_) (v := ?_) (a' := ?_) (at_of hops.out ?_) ?_ (fun W hW => ?_) ?_ ?_; rotate_left 3; (focus (simp only [List.getElem?_toArray, List.getElem?_cons_zero, List.getElem?_cons_succ]; rfl)); (focus (rw [hops.out]; rfl)); (focus (obtain ⟨a1, oa1, e1, u1⟩ := RdV.icell (FB.rdV hW HRA2.out) hlt; cases e1; obtain ⟨b1, ob1, e2, u2⟩ := RdV.icell (FB.rdV hW HRB2.out) hjy; cases e2; go_simp; with_reducible rfl)); (focus (simp only [Act.put, List.setIfInBounds_toArray, List.set_cons_zero, List.set_cons_succ]; rfl)))
        refine sch_done ?_
        have HF3 := Lib.hid (HF0.out.trans HF)
        have htk : zs.take (j + 1) = zs.take j ++ [zs[j]] := by rw [List.take_succ_eq_append_getElem hlt]
        have htk2 : ys.take (j + 1) = ys.take j ++ [ys[j]] := by rw [List.take_succ_eq_append_getElem hjy]
        by_cases he : zs[j] = ys[j]
        · have hne2 : (zs[j] != ys[j]) = false := by simp [he]
          have HT2 := Lib.hid (show zs.take (j + 1) = ys.take (j + 1) by rw [htk, htk2, HT.out, he])
          clear htk htk2 he hops
          go_wp2
          go_roundw
          case rel => exact ⟨j + 1, by omega, by go_num, HT2.out, HF3.out⟩
          case measure => simp [intOf]; omega
        · have hne2 : (zs[j] != ys[j]) = true := by simp [he]
          have HX := Lib.hid (show C = false from by rw [← HC.out]; simp only [decide_eq_false_iff_not]; intro e; subst e; exact he rfl)
          clear htk htk2 he hops
          go_wp2
          go_ret
          exact ⟨by rw [HX.out]; rfl, HF3.out⟩
      · obtain rfl : j = zs.length := by omega
        have HX := Lib.hid (show C = true from by rw [← HC.out]; simp only [decide_eq_true_eq]; have := HT.out; rw [List.take_length, HL.out, List.take_length] at this; exact this)
        have hjz : ¬ ((zs.length : Nat) : Int) < (zs.length : Int) := by omega
        go_wp2
        go_ret
        exact ⟨by rw [HX.out]; rfl, HF0.out⟩
  · have hne : ((zs.length : Int) != (ys.length : Int)) = true := by simp; omega
    rw [show decide (zs = ys) = false from by simp only [decide_eq_false_iff_not]; intro e; exact hl (by rw [e])]
    clear hra hrb hl
    go_enter Tryd.func33, Tryd.ntmps33
    go_wp2
    go_ret
    exact ⟨rfl, FB.refl _⟩
end Go.Proofs.YtihljjfnjclefaaDoor
/- Sectors of bytes, plain: a splice changes its own sector alone. -/
set_option linter.unusedVariables false
set_option linter.unusedSimpArgs false
namespace Go.Proofs.YtihljjfnjclefaaDoor
open Go.ChangeShapes Go.WideShapes Go.ChangeAt Go.RowKit Go.MapKept

theorem sec_get (b : List Byte) (k i : Nat) : (sec b k)[i]? = if i < 512 then b[512 * k + i]? else none := by
  unfold sec
  rw [List.getElem?_take, List.getElem?_drop]
theorem splice_get (b x : List Byte) (off i : Nat) (h : off + x.length ≤ b.length) : (splice b off x)[i]? = if i < off then b[i]? else if i < off + x.length then x[i - off]? else b[i]? := by
  unfold splice
  rw [List.getElem?_append]
  have hl : (b.take off).length = off := by rw [List.length_take]; omega
  rw [hl]
  by_cases h1 : i < off
  · rw [if_pos h1, if_pos h1, List.getElem?_take, if_pos h1]
  · rw [if_neg h1, if_neg h1, List.getElem?_append]
    by_cases h2 : i < off + x.length
    · rw [if_pos (show i - off < x.length by omega), if_pos h2]
    · rw [if_neg (show ¬ i - off < x.length by omega), if_neg h2, List.getElem?_drop]
      congr 1; omega
theorem sec_splice_other {b x : List Byte} {k k' n : Nat} (hb : b.length = 512 * n) (hk : k < n) (hx : x.length ≤ 512) (hne : k' ≠ k) : sec (splice b (512 * k) x) k' = sec b k' := by
  apply List.ext_getElem?
  intro i
  rw [sec_get, sec_get]
  by_cases hi : i < 512
  · rw [if_pos hi, if_pos hi, splice_get _ _ _ _ (by omega)]
    by_cases h1 : 512 * k' + i < 512 * k
    · rw [if_pos h1]
    · rw [if_neg h1, if_neg (by omega)]
  · rw [if_neg hi, if_neg hi]
theorem sec_splice_same {b x : List Byte} {k n : Nat} (hb : b.length = 512 * n) (hk : k < n) (hx : x.length ≤ 512) : sec (splice b (512 * k) x) k = x ++ (sec b k).drop x.length := by
  apply List.ext_getElem?
  intro i
  rw [sec_get, List.getElem?_append, List.getElem?_drop, sec_get]
  by_cases hi : i < 512
  · rw [if_pos hi, splice_get _ _ _ _ (by omega), if_neg (by omega)]
    by_cases h1 : i < x.length
    · rw [if_pos (by omega), if_pos h1]; congr 1; omega
    · rw [if_neg (by omega), if_neg h1, if_pos (by omega)]; congr 1; omega
  · rw [if_neg hi, if_neg (by omega), if_neg (by omega)]
theorem sec_replicate (n k : Nat) (v : Byte) (hk : k < n) : sec (List.replicate (512 * n) v) k = List.replicate 512 v := by
  apply List.ext_getElem?
  intro i
  rw [sec_get, List.getElem?_replicate, List.getElem?_replicate]
  by_cases hi : i < 512
  · rw [if_pos hi, if_pos hi, if_pos (by omega)]
  · rw [if_neg hi, if_neg hi]
theorem sdWrite_ok {D : DiskSt} {n : Nat} {k : Int} {xs : List Byte} (h0 : 0 ≤ k) (h1 : k < n) (hl : xs.length = 512) (hf : D.fuse = none) : sdWrite D n k xs = (0, ⟨D.b, cput D.M k xs, none⟩) := by
  unfold sdWrite
  rw [if_neg (by omega), hf]
  simp [ffail]
theorem sdRead_ok {D : DiskSt} {n : Nat} {k : Int} (h0 : 0 ≤ k) (h1 : k < n) (hf : D.fuse = none) : sdRead D n k = ((cget D.M k).getD (sec D.b k.toNat), 0, D) := by
  unfold sdRead
  rw [if_neg (by omega), hf]
  cases D
  simp only [ffail] at hf ⊢
  rw [hf]; simp
/-- A disk that lies in what was made since w0. -/
structure DW (w0 w : World) (F : List Nat) (g n : Nat) (D : DiskSt) : Prop where
  dsk : Dsk w F g n D
  fb : FB w0 w
  own : ∀ x ∈ F, w0.heap.size ≤ x
theorem DW.res {w0 w w' : World} {F : List Nat} {g n : Nat} {D D' : DiskSt} (h : DW w0 w F g n D) (k : DskRes w F g n D' w') : ∃ F', DW w0 w' F' g n D' ∧ TS F w w' ∧ ∀ x ∈ F', x ∈ F ∨ w.heap.size ≤ x := by
  obtain ⟨F', h1, h2, h3⟩ := k
  exact ⟨F', ⟨h2, h.fb.ts h3 h.own, fun x hx => (h1 x hx).elim (h.own x) (fun h' => Nat.le_trans h.fb.le h')⟩, h3, h1⟩
theorem DW.ts {w0 w w' : World} {F : List Nat} {g n : Nat} {D D' : DiskSt} (h : DW w0 w F g n D) (k : Dsk w' F g n D') (t : TS F w w') : DW w0 w' F g n D' := ⟨k, h.fb.ts t h.own, h.own⟩
theorem DW.fbn {w0 w w' : World} {F : List Nat} {g n : Nat} {D : DiskSt} (h : DW w0 w F g n D) (k : FB w w') : DW w0 w' F g n D := ⟨h.dsk.fb k, h.fb.trans k, h.own⟩
theorem DW.notin {w0 w : World} {F : List Nat} {g n : Nat} {D : DiskSt} (h : DW w0 w F g n D) {x : Nat} (hx : w.heap.size ≤ x) : x ∉ F := fun hm => by have := h.dsk.lt x hm; omega
end Go.Proofs.YtihljjfnjclefaaDoor
/- Sectors of bytes, plain: what a crash, a flush leave. -/
set_option linter.unusedVariables false
set_option linter.unusedSimpArgs false
namespace Go.Proofs.YtihljjfnjclefaaDoor
open Go.ChangeShapes Go.WideShapes Go.ChangeAt Go.RowKit Go.MapKept

theorem sec_ext {b b' : List Byte} {n : Nat} (h : b.length = 512 * n) (h' : b'.length = 512 * n) (hs : ∀ k, k < n → sec b k = sec b' k) : b = b' := by
  apply List.ext_getElem?
  intro i
  by_cases hi : i < 512 * n
  · have hk : i / 512 < n := by omega
    have := congrArg (·[i % 512]?) (hs (i / 512) hk)
    simp only [sec_get] at this
    rw [if_pos (by omega), if_pos (by omega), show 512 * (i / 512) + i % 512 = i by omega] at this
    exact this
  · rw [List.getElem?_eq_none (by omega), List.getElem?_eq_none (by omega)]
theorem cget_none_at {M : List (Int × List Byte)} {k : Int} (h : cget M k = none) : ∀ (i : Nat) (p : Int × List Byte), M[i]? = some p → p.1 ≠ k := by
  induction M with
  | nil => intro i p hp; simp at hp
  | cons q M ih =>
    obtain ⟨qk, qv⟩ := q
    rw [cget] at h
    by_cases h0 : qk = k
    · rw [if_pos h0] at h; cases h
    · rw [if_neg h0] at h
      intro i p hp
      cases i with
      | zero => simp only [List.getElem?_cons_zero, Option.some.injEq] at hp; subst hp; exact h0
      | succ i => simp only [List.getElem?_cons_succ] at hp; exact ih h i p hp
theorem cget_some_at {M : List (Int × List Byte)} {k : Int} {x : List Byte} (h : cget M k = some x) : ∃ i : Nat, i < M.length ∧ M[i]? = some (k, x) := by
  induction M with
  | nil => cases h
  | cons q M ih =>
    obtain ⟨qk, qv⟩ := q
    rw [cget] at h
    by_cases h0 : qk = k
    · rw [if_pos h0] at h
      simp only [Option.some.injEq] at h
      subst h h0
      exact ⟨0, by simp, rfl⟩
    · rw [if_neg h0] at h
      obtain ⟨i, h1, h2⟩ := ih h
      exact ⟨i + 1, by simpa using h1, by simpa using h2⟩
theorem sec_crashB {f : Nat → Nat} {M : List (Int × List Byte)} {b : List Byte} {n k : Nat} (hb : b.length = 512 * n) (hM : ∀ p ∈ M, 0 ≤ p.1 ∧ p.1 < n ∧ p.2.length = 512) (hn : (M.map (·.1)).Nodup) (hf : ∀ i, f i ≤ 512) : ∀ j,
    (∀ (i : Nat) x, i < j → M[i]? = some ((k : Int), x) → sec (crashB f M b j) k = x.take (f i) ++ (sec b k).drop (f i)) ∧ ((∀ (i : Nat) (p : Int × List Byte), i < j → M[i]? = some p → p.1 ≠ k) → sec (crashB f M b j) k = sec b k)
  | 0 => ⟨fun i x hi => absurd hi (by omega), fun _ => rfl⟩
  | j + 1 => by
    have ih := sec_crashB (k := k) hb hM hn hf j
    have hlen := crashB_len (f := f) hb hM j
    have huniq : ∀ (i i' : Nat) (p q : Int × List Byte), M[i]? = some p → M[i']? = some q → p.1 = q.1 → i = i' := fun i i' p q h1 h2 h3 => by
      have g1 : (M.map (·.1))[i]? = some p.1 := by rw [List.getElem?_map, h1]; rfl
      have g2 : (M.map (·.1))[i']? = some p.1 := by rw [List.getElem?_map, h2, h3]; rfl
      have hi := (List.getElem?_eq_some_iff.1 g1).1
      have hi' := (List.getElem?_eq_some_iff.1 g2).1
      rw [List.getElem?_eq_getElem hi] at g1
      rw [List.getElem?_eq_getElem hi'] at g2
      exact (List.getElem_inj hn).1 (by simp only [Option.some.injEq] at g1 g2; rw [g1, g2])
    cases hj : M[j]? with
    | none =>
      have hc : crashB f M b (j + 1) = crashB f M b j := by rw [crashB, hj]
      rw [hc]
      refine ⟨fun i x hi hx => ?_, fun h => ih.2 (fun i p hi => h i p (by omega))⟩
      have : i ≠ j := fun e => by subst e; rw [hj] at hx; cases hx
      exact ih.1 i x (by omega) hx
    | some p =>
      have hp := hM p (List.mem_of_getElem? hj)
      have hc : crashB f M b (j + 1) = splice (crashB f M b j) (512 * p.1.toNat) (p.2.take (f j)) := by rw [crashB, hj]
      rw [hc]
      by_cases hk : p.1 = (k : Int)
      · have hkk : p.1.toNat = k := by omega
        have hno : ∀ (i : Nat) (q : Int × List Byte), i < j → M[i]? = some q → q.1 ≠ k := fun i q hi hq e => by
          have := huniq i j q p hq hj (by rw [e, hk])
          omega
        have hs := sec_splice_same (k := k) (x := p.2.take (f j)) hlen (by omega) (by rw [List.length_take]; omega)
        rw [ih.2 hno, show (p.2.take (f j)).length = f j from by rw [List.length_take, hp.2.2]; have := hf j; omega] at hs
        rw [hkk]
        refine ⟨fun i x hi hx => ?_, fun h => absurd hk (h j p (by omega) hj)⟩
        have hij := huniq i j _ p hx hj hk.symm
        subst hij
        rw [hj] at hx
        simp only [Option.some.injEq] at hx
        rw [hs, hx]
      · have hkk : k ≠ p.1.toNat := by omega
        rw [sec_splice_other hlen (by omega) (by rw [List.length_take]; omega) hkk]
        refine ⟨fun i x hi hx => ?_, fun h => ih.2 (fun i q hi => h i q (by omega))⟩
        have : i ≠ j := fun e => by
          subst e
          rw [hj] at hx
          simp only [Option.some.injEq] at hx
          rw [hx] at hk
          exact hk rfl
        exact ih.1 i x (by omega) hx
/-- The bytes behind a flush. -/
def flushB (M : List (Int × List Byte)) (b : List Byte) : List Byte := crashB (fun _ => 512) M b M.length
theorem flushB_len {M : List (Int × List Byte)} {b : List Byte} {n : Nat} (hb : b.length = 512 * n) (hM : ∀ p ∈ M, 0 ≤ p.1 ∧ p.1 < n ∧ p.2.length = 512) : (flushB M b).length = 512 * n := crashB_len hb hM _
theorem sec_flushB {M : List (Int × List Byte)} {b : List Byte} {n k : Nat} (hb : b.length = 512 * n) (hk : k < n) (hM : ∀ p ∈ M, 0 ≤ p.1 ∧ p.1 < n ∧ p.2.length = 512) (hn : (M.map (·.1)).Nodup) : sec (flushB M b) k = (cget M k).getD (sec b k) := by
  have h := sec_crashB (f := fun _ => 512) (k := k) hb hM hn (fun _ => Nat.le_refl _) M.length
  unfold flushB
  cases hc : cget M (k : Int) with
  | none => exact h.2 (fun i p _ hp => cget_none_at hc i p hp)
  | some x =>
    obtain ⟨i, hi, hx⟩ := cget_some_at hc
    have hl := (hM _ (List.mem_of_getElem? hx)).2.2
    rw [h.1 i x hi hx]
    simp only at hl
    rw [List.take_of_length_le (by omega), List.drop_of_length_le (by rw [sec_len hb hk]; omega), List.append_nil]; rfl
theorem flushB_of {M : List (Int × List Byte)} {b b' : List Byte} {n : Nat} (hb : b.length = 512 * n) (hb' : b'.length = 512 * n) (hM : ∀ p ∈ M, 0 ≤ p.1 ∧ p.1 < n ∧ p.2.length = 512) (hn : (M.map (·.1)).Nodup) (h : ∀ k, k < n → sec b' k = (cget M k).getD (sec b k)) : b' = flushB M b :=
  sec_ext hb' (flushB_len hb hM) (fun k hk => by rw [h k hk, sec_flushB hb hk hM hn])
end Go.Proofs.YtihljjfnjclefaaDoor
