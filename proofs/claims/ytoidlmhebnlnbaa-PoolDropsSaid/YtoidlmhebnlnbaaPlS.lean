/- PoolDrops, plain: what stands in the pool between its calls. -/
import Derived.Test.YtoidlmhebnlnbaaPlQ
set_option linter.unusedVariables false
set_option linter.unusedSimpArgs false
namespace Go.Proofs.Ytoidlmhebnlnbaa
open Go.ChangeShapes Go.WideShapes Go.ChangeAt Go.RowKit
set_option maxRecDepth 100000

/-- The page is in a frame: its bytes, how often it is pinned. -/
structure DrX (st : PlSt) (k : Nat) (v : Byte) (p : Int) : Prop where
  inv : PlInv 80 st
  hit : ∃ i, plFind st.fs k = some i
  val : plV st k = List.replicate 4096 v
  pins : plN st k = p
/-- And the disk has other bytes. -/
structure DrA (st : PlSt) (k : Nat) (a b : Byte) (p : Bool) : Prop where
  x : DrX st k b (if p then 1 else 0)
  dsk : pgAt st.D k = List.replicate 4096 a
/-- There will be room; the disk has these bytes. -/
structure DrB (st : PlSt) (k : Nat) (v : Byte) : Prop where
  inv : PlInv 80 st
  emp : (∃ i, i < st.fs.length ∧ (st.fs.getD i frm0).is = false) ∨ ∃ i, plFind st.fs k = some i
  dsk : pgAt st.D k = List.replicate 4096 v
def dd0 : PlSt := ⟨List.replicate 8 frm0, 0, ⟨List.replicate (512 * 80) 0#8, [], none⟩⟩
section
variable {st : PlSt} {k : Nat} {a b v : Byte}
theorem dr_put1 (hk : k < 10) (a : Byte) : (plPut 80 dd0 k (List.replicate 4096 a)).1 = 0 ∧ DrX (plPut 80 dd0 k (List.replicate 4096 a)).2 k a 0 := by
  have h : PlInv 80 dd0 := PlInv.fresh (by omega) rfl (fun k hk => by rw [pgAt_new hk]; simp)
  have hk8 : k < 80 / 8 := by omega
  have he := plPut_emp (xs := List.replicate 4096 a) h hk8 (by simp) (i := 0) (by show 0 < (List.replicate 8 frm0).length; simp) (by show ((List.replicate 8 frm0).getD 0 frm0).is = false; rw [fr_rep]; rfl)
  obtain ⟨p1, -, p2⟩ := plPut_ok (xs := List.replicate 4096 a) h hk8 (by simp)
  rcases p2 with ⟨p2, -⟩ | ⟨p2, p3, p4⟩
  · rw [he] at p2; cases p2
  · refine ⟨he, p1, p3, ?_, ?_⟩
    · rw [(p4 k).1, if_pos rfl]
    · rw [(p4 k).2]; exact plN_miss (find_fresh 8 k)
theorem dr_flush (h : DrX st k a 0) (hk : k < 10) (ho : (plClean 80 st).2.D.ok 80) (hn : ((plClean 80 st).2.D.M.map (·.1)).Nodup) : (plFlush 80 st).1 = 0 ∧ DrX (plFlush 80 st).2 k a 0 ∧ pgAt (plFlush 80 st).2.D k = List.replicate 4096 a := by
  obtain ⟨f1, f2, f3, -, f5, f6⟩ := plFlush_ok h.inv ho hn
  obtain ⟨i, hi⟩ := h.hit
  obtain ⟨v1, v2⟩ := f5 k (by omega)
  exact ⟨f1, ⟨f2, ⟨i, f3.find f2 hi⟩, v1.trans h.val, (f6 k).trans h.pins⟩, v2.trans h.val⟩
theorem dr_put2 (h : DrX st k a 0) (hd : pgAt st.D k = List.replicate 4096 a) (hk : k < 10) (b : Byte) : (plPut 80 st k (List.replicate 4096 b)).1 = 0 ∧ DrA (plPut 80 st k (List.replicate 4096 b)).2 k a b false := by
  have hk8 : k < 80 / 8 := by omega
  obtain ⟨i, hi⟩ := h.hit
  obtain ⟨h0, hD⟩ := plPut_hitD (xs := List.replicate 4096 b) hk8 (by simp) hi
  obtain ⟨p1, -, p2⟩ := plPut_ok (xs := List.replicate 4096 b) h.inv hk8 (by simp)
  rcases p2 with ⟨p2, -⟩ | ⟨p2, p3, p4⟩
  · rw [h0] at p2; cases p2
  · refine ⟨h0, ⟨p1, p3, ?_, ?_⟩, ?_⟩
    · rw [(p4 k).1, if_pos rfl]
    · rw [(p4 k).2]; exact h.pins
    · rw [hD]; exact hd
theorem dr_pin (h : DrA st k a b false) (hk : k < 10) : (plPin 80 st k).1 = 0 ∧ DrA (plPin 80 st k).2 k a b true := by
  have hk8 : k < 80 / 8 := by omega
  obtain ⟨i, hi⟩ := h.x.hit
  obtain ⟨h0, hD⟩ := plPin_hitD hk8 hi
  have hp := h.x.pins
  obtain ⟨p1, -, p2⟩ := plPin_ok h.x.inv hk8 (by rw [hp]; decide)
  rcases p2 with ⟨p2, -⟩ | ⟨p2, p3, p4⟩
  · rw [h0] at p2; cases p2
  · refine ⟨h0, ⟨p1, p3, ?_, ?_⟩, ?_⟩
    · rw [(p4 k).1]; exact h.x.val
    · rw [(p4 k).2, if_pos rfl, hp]; rfl
    · rw [hD]; exact h.dsk
theorem dr_keep {p : Bool} (h : DrA st k a b p) : DrB st k a := ⟨h.x.inv, .inr h.x.hit, h.dsk⟩
theorem dr_clean {p : Bool} (h : DrA st k a b p) : (plClean 80 st).1 = 0 ∧ DrB (plClean 80 st).2 k b := by
  obtain ⟨c1, c2, c3, c4⟩ := plClean_ok h.x.inv
  obtain ⟨i, hi⟩ := h.x.hit
  exact ⟨c1, c2, .inr ⟨i, c3.find c2 hi⟩, ((c3.disk c2 k).trans (c4 k).1).trans h.x.val⟩
theorem dr_evict (h : DrA st k a b false) {i : Nat} (hi : plFind st.fs k = some i) : (plEvict 80 st i).1 = 0 ∧ DrB (plEvict 80 st i).2 k b := by
  obtain ⟨e1, e2, e3, e4⟩ := plEvict_go h.x.inv hi h.x.pins
  obtain ⟨p1, p2, p3⟩ := plEvict_ok h.x.inv (i : Int)
  exact ⟨e1, p1, .inl ⟨i, by rw [p3]; exact (find_some hi).1, e3⟩, e4.trans h.x.val⟩
theorem dr_noevict (h : DrA st k a b true) {i : Nat} (hi : plFind st.fs k = some i) : plEvict 80 st i = (6, st) := plEvict_no hi (by rw [h.x.pins]; decide)
theorem dr_reset {p : Bool} (h : DrA st k a b p) : DrB ⟨List.replicate st.fs.length frm0, 0, st.D⟩ k a := by
  have hl : 0 < st.fs.length := by have := h.x.inv.hand; omega
  exact ⟨PlInv.fresh hl h.x.inv.fuse h.x.inv.plen, .inl ⟨0, by simpa using hl, by rw [fr_rep]; rfl⟩, h.dsk⟩
theorem dr_drop (h : DrB st k v) (hk : k < 10) : (plDrop 80 st k).1 = 0 ∧ plUnpin (plDrop 80 st k).2 k = (6, (plDrop 80 st k).2) ∧ (∀ i, ((plDrop 80 st k).2.fs.getD i frm0).is = true → ((plDrop 80 st k).2.fs.getD i frm0).pg ≠ k) ∧
    (plGet 80 (plDrop 80 st k).2 k).1.2 = 0 ∧ plGetB 80 (plDrop 80 st k).2 k = List.replicate 4096 v := by
  have hk8 : k < 80 / 8 := by omega
  obtain ⟨d1, d2, d3, d4, i, d5, d6⟩ := plDrop_ok h.inv hk8 h.emp
  obtain ⟨g1, g2⟩ := plGet_emp d2 hk8 d5 d6
  refine ⟨d1, plUnpin_zero (plN_miss d3), fun i => find_none d3 i, g1, g2.trans ?_⟩
  rw [plV_miss d3, d4]
  exact h.dsk
/-- The frame with the page, among all. -/
theorem DrX.at {p : Int} (h : DrX st k v p) {i : Nat} (hi : plFind st.fs k = some i) (j : Nat) : ((st.fs.getD j frm0).is = true ∧ (st.fs.getD j frm0).pg = (k : Int)) ↔ j = i := by
  obtain ⟨f1, f2, f3⟩ := find_some hi
  constructor
  · rintro ⟨a, b⟩; exact h.inv.uniq _ _ a f2 (by rw [b, f3])
  · rintro rfl; exact ⟨f2, f3⟩
end
end Go.Proofs.Ytoidlmhebnlnbaa
