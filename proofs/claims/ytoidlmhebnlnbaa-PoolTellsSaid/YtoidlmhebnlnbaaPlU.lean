/- PoolTells: what stands in memory between its calls: the pool, a row of bytes, a row of integers. -/
import Derived.Test.YtoidlmhebnlnbaaPlT
import Derived.Test.YtoidlmhebnlnbaaPlL
import Derived.Test.YtoidlmhebnlnbaaKit
import Derived.Test.YtoidlmhebnlnbaaMk
import Derived.Test.YtoidlmhebnlnbaaDskD
import Derived.Test.YtoidlmhebnlnbaaDskJ
import Derived.Test.YtoidlmhebnlnbaaStr
set_option linter.unusedVariables false
set_option linter.unusedSimpArgs false
namespace Go.Proofs.Ytoidlmhebnlnbaa
open Go.ChangeShapes Go.WideShapes Go.ChangeAt Go.RowKit
set_option maxRecDepth 100000

theorem mk_ints (n : Nat) (hn : n ≤ 100000000) : ∃ C : Array Value,
    (∀ W : World, (Instr.makeSlice 37 (.int .i64 (n : Int)) (.int .i64 (n : Int))).run Try.prog W = .ok (.slice (some ⟨W.heap.size, 0, none⟩) n n) (W.alloc (.cells C 3))) ∧
    C = ((List.replicate n (0 : Int)).map (.int .i64)).toArray := by
  obtain ⟨i, hi, hz, hsz, hb⟩ := info_parts info_int
  refine ⟨madeCells #[.int .i64 0] n, fun W => ?_, ?_⟩
  · have h := run_make (P := Try.prog) W 37 3 i _ Try.underlying37 hi hz .i64 .i64 (n : Int) (n : Int) (by omega) (Int.le_refl _) (by rw [hb]; omega) (by omega)
    rw [hsz] at h
    simpa [Value.cells] using h
  · rw [List.map_replicate, ← toList_madeCells_one]
section
variable {w : World} {g k : Nat} {xs : List Value} {t : TypeId}
/-- A row, its cells. -/
theorem rw_cell (h : w.heap[g]? = some (.cells xs.toArray t (0, 0))) (hk : k < xs.length) : w.cell? ⟨g, k, none⟩ = some xs[k] := by
  rw [cell_of_row _ _ _ _ _ _ h, List.getElem?_toArray, List.getElem?_eq_getElem hk]
theorem rw_set (h : w.heap[g]? = some (.cells xs.toArray t (0, 0))) (k : Nat) (v : Value) : (w.setCell ⟨g, k, none⟩ v).heap[g]? = some (.cells (xs.set k v).toArray t (0, 0)) := by
  rw [heap_setCell_same _ g k _ _ _ h]
  simp
theorem rw_rd (h : w.heap[g]? = some (.cells xs.toArray t (0, 0))) : RdV w (some ⟨g, 0, none⟩) xs := fun i hi => by
  refine ⟨g, 0, rfl, ?_⟩
  rw [Nat.zero_add]; exact rw_cell h hi
end
/-- A row has just come: the page is put. -/
theorem po_PutRowK {w0 w w' : World} {K : List Nat} {g n gp gf : Nat} {st : PlSt} {A : Option Addr} {v : Byte} (h : PoA w0 K g n gp gf st w) (ho : Own w' w.heap.size (.slice A 4096 4096) (List.replicate 4096 v)) (hb : FB w w') (k : Int) :
    Calls Try.prog 13 #[.pointer (some ⟨gp, 0, none⟩), .int .i64 k, .slice A 4096 4096] w' fun e w'' => e = .returned (.int .i64 (plPut n st k (List.replicate 4096 v)).1) ∧ PoA w0 K g n gp gf (plPut n st k (List.replicate 4096 v)).2 w'' ∧ KP K w w'' := by
  obtain ⟨gb, e1, e2, e3⟩ := Own.head0 ho (by omega)
  have hk := h.add hb gb e2 e3
  have hc := po_Put hk k A 4096 (List.replicate 4096 v) (by rw [List.length_replicate]; omega) ho.info.2.2.1 (fun ad ha => by rw [e1] at ha; cases ha; exact .inl (by simp))
  rw [show (List.replicate 4096 v).length = 4096 from List.length_replicate] at hc
  refine hc.mono ?_
  rintro e w2 ⟨rfl, hp, hkp⟩
  exact ⟨rfl, hp.fewer (fun b hb => List.mem_cons_of_mem _ hb), (h.kp hb).trans ⟨hkp.1, fun b hb => hkp.2 b (List.mem_cons_of_mem _ hb)⟩⟩
theorem pl_small {n : Nat} {st : PlSt} (h : PlInv n st) : ∀ f ∈ st.fs, f.b = [] ∨ f.b.length = 4096 := by
  intro f hf
  obtain ⟨i, hi, rfl⟩ := List.getElem_of_mem hf
  have e : st.fs.getD i frm0 = st.fs[i] := by rw [List.getD_eq_getElem?_getD, List.getElem?_eq_getElem hi]; rfl
  cases hx : st.fs[i].is with
  | false => left; rw [← e, h.off i (by rw [e]; exact hx)]; rfl
  | true => right; rw [← e]; exact h.len i (by rw [e]; exact hx)
theorem pl_flen {w0 w : World} {K : List Nat} {g n gp gf : Nat} {st : PlSt} (h : PoA w0 K g n gp gf st w) : 0 < st.fs.length := by
  obtain ⟨⟨F, xs, h1, h2, h3, h4⟩, h5⟩ := h
  have := h1.hl
  rw [← h2, List.length_map]; omega
structure TlM (w0 : World) (g n gp gf gh gq : Nat) (hs : List Byte) (ps : List Int) (st : PlSt) (w : World) : Prop where
  po : PoA w0 [gh, gq] g n gp gf st w
  hrow : w.heap[gh]? = some (.cells (vbs hs).toArray 5 (0, 0))
  prow : w.heap[gq]? = some (.cells (ps.map (.int .i64)).toArray 3 (0, 0))
  ne : gh ≠ gq
  ge : w0.heap.size ≤ gh ∧ w0.heap.size ≤ gq
section
variable {w0 w w' : World} {g n gp gf gh gq P fr i k : Nat} {hs : List Byte} {ps : List Int} {st st' : PlSt}
theorem TlM.byFB (h : TlM w0 g n gp gf gh gq hs ps st w) (t : FB w w') : TlM w0 g n gp gf gh gq hs ps st w' :=
  ⟨(h.po.byFB t).1, (t.block _ (Array.getElem?_eq_some_iff.1 h.hrow).1).trans h.hrow, (t.block _ (Array.getElem?_eq_some_iff.1 h.prow).1).trans h.prow, h.ne, h.ge⟩
theorem TlM.step (h : TlM w0 g n gp gf gh gq hs ps st w) (hp : PoA w0 [gh, gq] g n gp gf st' w') (hk : KP [gh, gq] w w') : TlM w0 g n gp gf gh gq hs ps st' w' :=
  ⟨hp, (hk.2 gh (by simp)).trans h.hrow, (hk.2 gq (by simp)).trans h.prow, h.ne, h.ge⟩
theorem TlM.hcell (h : TlM w0 g n gp gf gh gq hs ps st w) (hk : k < hs.length) : w.cell? ⟨gh, k, none⟩ = some (.int .u8 (nb (hs.getD k 0#8))) ∧ w.frozen? ⟨gh, k, none⟩ = false := by
  refine ⟨?_, frozen_row _ h.hrow k⟩
  rw [rw_cell h.hrow (by rw [vbs_length]; exact hk), vbs_get hs k hk, List.getD_eq_getElem?_getD, List.getElem?_eq_getElem hk]; rfl
theorem TlM.pcell (h : TlM w0 g n gp gf gh gq hs ps st w) (hk : k < ps.length) : w.cell? ⟨gq, k, none⟩ = some (.int .i64 (ps.getD k 0)) ∧ w.frozen? ⟨gq, k, none⟩ = false := by
  refine ⟨?_, frozen_row _ h.prow k⟩
  rw [rw_cell h.prow (by rw [List.length_map]; exact hk), List.getElem_map, List.getD_eq_getElem?_getD, List.getElem?_eq_getElem hk]; rfl
theorem TlM.seth (h : TlM w0 g n gp gf gh gq hs ps st w) (hb : ∀ f ∈ st.fs, f.b = [] ∨ f.b.length = 4096) (hl : hs.length < 4096) (k : Nat) (v : Byte) : TlM w0 g n gp gf gh gq (hs.set k v) ps st (w.setCell ⟨gh, k, none⟩ (.int .u8 (nb v))) := by
  refine ⟨h.po.set gh k _ (by simp) h.ge.1 h.hrow (by simp [vbs_length]; exact hl) hb, ?_, ?_, h.ne, h.ge⟩
  · rw [rw_set h.hrow]; simp [vbs, vb, List.map_set]
  · rw [heap_setCell_other _ _ _ _ (fun e => h.ne (by simpa using e.symm))]; exact h.prow
theorem TlM.setp (h : TlM w0 g n gp gf gh gq hs ps st w) (hb : ∀ f ∈ st.fs, f.b = [] ∨ f.b.length = 4096) (hl : ps.length < 4096) (k : Nat) (v : Int) : TlM w0 g n gp gf gh gq hs (ps.set k v) st (w.setCell ⟨gq, k, none⟩ (.int .i64 v)) := by
  refine ⟨h.po.set gq k _ (by simp) h.ge.2 h.prow (by simp; exact hl) hb, ?_, ?_, h.ne, h.ge⟩
  · rw [heap_setCell_other _ _ _ _ (fun e => h.ne (by simpa using e))]; exact h.hrow
  · rw [rw_set h.prow]; simp [List.map_set]
theorem TlM.begin (h : PoA w0 [] g n gp gf st w) {C1 C2 : Array Value} (h1 : C1 = (vbs hs).toArray) (h2 : C2 = (ps.map (.int .i64)).toArray) :
    TlM w0 g n gp gf w.heap.size (w.heap.size + 1) hs ps st ((w.alloc (.cells C1 5)).alloc (.cells C2 3)).drew ∧ TlM w0 g n gp gf (w.heap.size + 1) w.heap.size hs ps st ((w.alloc (.cells C2 3)).alloc (.cells C1 5)).drew := by
  have key : ∀ o1 o2 : Obj, PoA w0 [w.heap.size + 1, w.heap.size] g n gp gf st ((w.alloc o1).alloc o2).drew ∧ ((w.alloc o1).alloc o2).drew.heap[w.heap.size]? = some o1 ∧ ((w.alloc o1).alloc o2).drew.heap[w.heap.size + 1]? = some o2 := fun o1 o2 => by
    have a1 := h.add ((FB.refl w).alloc o1) w.heap.size (Nat.le_refl _) (by simp)
    have a2 := a1.add ((FB.refl (w.alloc o1)).alloc o2) (w.heap.size + 1) (by simp) (by simp)
    refine ⟨(a2.byFB (FB.refl _).drew).1, ?_, ?_⟩
    · show ((w.alloc o1).alloc o2).heap[w.heap.size]? = some o1
      rw [((FB.refl (w.alloc o1)).alloc o2).block _ (by simp)]
      exact heap_alloc_new _ _
    · have := heap_alloc_new (w.alloc o1) o2
      rw [show (w.alloc o1).heap.size = w.heap.size + 1 from by simp] at this
      exact this
  have hle := h.fb.le
  subst h1 h2
  obtain ⟨p1, p2, p3⟩ := key (.cells (vbs hs).toArray 5) (.cells (ps.map (.int .i64)).toArray 3)
  obtain ⟨q1, q2, q3⟩ := key (.cells (ps.map (.int .i64)).toArray 3) (.cells (vbs hs).toArray 5)
  exact ⟨⟨p1.fewer (by simp), p2, p3, by omega, by omega, by omega⟩, ⟨q1.fewer (by simp), q3, q2, by omega, by omega, by omega⟩⟩
end
end Go.Proofs.Ytoidlmhebnlnbaa
