/- Sectors: the walks through row, slices.Clone of ints, Cached, tallymankit.Ints. -/
import Derived.Test.YtoidlmhebnlnbaaDskH
set_option linter.unusedVariables false
set_option linter.unusedSimpArgs false
namespace Go.Proofs.Ytoidlmhebnlnbaa
open Go.ChangeShapes Go.WideShapes Go.ChangeAt Go.RowKit Go.MapKept
attribute [local go_sem] nb_nonneg nb_lt8

theorem Own.cellset0 {w : World} {base n g : Nat} {c : Nat} {xs : List Byte} (h : Own w base (.slice (some ⟨g, 0, none⟩) n c) xs) {j : Nat} (hj : j < xs.length) :
    w.cell? ⟨g, j, none⟩ = some (vb xs[j]) ∧ w.frozen? ⟨g, j, none⟩ = false ∧ ∀ b : Byte, Own (w.setCell ⟨g, j, none⟩ (vb b)) base (.slice (some ⟨g, 0, none⟩) n c) (xs.set j b) := by
  obtain ⟨_, _, h3, hn, _⟩ := Own.info h
  subst hn
  have hr := h
  unfold Own OwnV at hr
  rw [vbs_length] at hr
  refine ⟨?_, World.ownsRow.frozenAt hr j, fun b => ?_⟩
  · rw [World.ownsRow.cellAt hr j (by omega), vbs_get? xs j hj]
  · have := (World.ownsRow.stored hr j (vb b)).1
    unfold Own OwnV
    rw [vbs_length, List.length_set, show vbs (xs.set j b) = (vbs xs).set j (vb b) from by simp [vbs, List.map_set]]
    exact this
theorem fill_set (v : Byte) (j n : Nat) (h : j < n) : (List.replicate j v ++ List.replicate (n - j) 0#8).set j v = List.replicate (j + 1) v ++ List.replicate (n - (j + 1)) 0#8 := by
  rw [List.set_append_right _ _ (by simp), List.length_replicate, Nat.sub_self, show n - j = (n - (j + 1)) + 1 by omega, List.replicate_succ, List.set_cons_zero, List.replicate_succ' (n := j), List.append_assoc]; rfl
set_option maxRecDepth 100000 in
set_option maxHeartbeats 400000 in
theorem sl_CloneI (zs : List Int) (A : Option Addr) (n c : Nat) (w : World) (hn : n = zs.length) (hm : zs.length ≤ 1000000000) (hr : RdV w A (zs.map (.int .i64))) :
    Calls Try.prog 37 #[.slice A n c] w fun e w' => ∃ A' c', e = .returned (.slice A' n c') ∧ RdV w' A' (zs.map (.int .i64)) ∧ FB w w' ∧ ∀ ad, A' = some ad → w.heap.size ≤ ad.block := by
  subst hn
  have HR := Lib.hid hr
  cases A with
  | none =>
    have hx : zs = [] := by
      cases zs with
      | nil => rfl
      | cons y ys => obtain ⟨b, o, e, _⟩ := hr 0 (by simp); cases e
    subst hx
    have hq : ∀ W, (binOp .eql 37 (.slice none 0 c) (.slice none 0 0)).run Try.prog W = .ok (.bool true) W := fun W => Lib.run_eql_slice_nil W _ 3 none _ c 0 0 Try.underlying37
    clear hr
    simp only [List.length_nil]
    go_enter Try.func37, Try.ntmps37
    go_wp2
    go_ret
    exact ⟨none, 0, rfl, RdV.nil _ _, FB.refl _, fun ad ha => (by cases ha)⟩
  | some ad =>
    have hq : ∀ W, (binOp .eql 37 (.slice (some ad) zs.length c) (.slice none 0 0)).run Try.prog W = .ok (.bool false) W := fun W => Lib.run_eql_slice_nil W _ 3 (some ad) _ c 0 0 Try.underlying37
    clear hr
    go_enter Try.func37, Try.ntmps37
    go_wp2_with (at_builtin; refine wpList_append_any rfl _ _ 37 3 8 (.int .i64 0) Try.underlying37 info_int rfl rfl w.heap.size _ [] (OwnV.lit _ w [] (by simp)) rfl (some ad) _ c (zs.map (.int .i64)) (by simp) rfl (HR.out.alloc _) (by simp [Value.oneCell']) (by simp [maxLen]; omega) (by simp; omega) (by simp) ?_; intro v' w1 ho hg _; have HO := Lib.hid ho; have HG := Lib.hid hg; clear ho hg)
    go_ret
    have ho := HO.out
    rw [List.nil_append] at ho
    obtain ⟨A', c', e1, -, -, h3, h4⟩ := OwnV.form ho
    rw [List.length_map] at e1
    exact ⟨A', c', by simp [e1], h3, ((FB.refl w).alloc _).grown HG.out (by simp [Value.ownBlock]), fun ad ha => (h4 ad ha).1⟩
/-- The order, as Cached returns it. -/
theorem Dsk.ordr {w : World} {F : List Nat} {g n : Nat} {D : DiskSt} (h : Dsk w F g n D) : ∃ O oc, w.cell? ⟨g, 2, none⟩ = some (.slice O D.M.length oc) ∧ RdV w O ((D.M.map (·.1)).map (.int .i64)) := by
  obtain ⟨gb, c, gm, O, oc, L, V, hp⟩ := h.parts
  have h2 := (row4 hp.row).2.2.1
  rw [List.length_map] at h2
  exact ⟨O, oc, h2, (OwnV.info hp.order).2.2.1⟩
set_option maxRecDepth 100000 in
set_option maxHeartbeats 400000 in
theorem dsk_Cached {w : World} {F : List Nat} {g n : Nat} {D : DiskSt} (h : Dsk w F g n D) :
    Calls Try.prog 23 #[.pointer (some ⟨g, 0, none⟩)] w fun e w' => ∃ A c, e = .returned (.slice A D.M.length c) ∧ RdV w' A ((D.M.map (·.1)).map (.int .i64)) ∧ FB w w' ∧ ∀ ad, A = some ad → w.heap.size ≤ ad.block := by
  have H := Lib.hid h
  obtain ⟨O, oc, q2, hr⟩ := h.ordr
  have HR := Lib.hid hr
  have HML := Lib.hid (Nat.le_trans h.mlen h.ok.n2)
  clear h hr
  go_enter Try.func23, Try.ntmps23
  go_wp2_with fail
  refine (dsk_made H.out).mono ?_
  rintro e w1 ⟨rfl, rfl⟩
  go_wp2_with fail
  refine (sl_CloneI (D.M.map (·.1)) O _ oc _ (by rw [List.length_map]) (by rw [List.length_map]; have := HML.out; omega) HR.out).mono ?_
  rintro e w1 ⟨A1, c1, rfl, hr1, hf, ha1⟩
  have HR1 := Lib.hid hr1
  have HF1 := Lib.hid hf
  have HA1 := Lib.hid ha1
  clear hr1 hf ha1
  go_wp2
  go_ret
  exact ⟨A1, c1, rfl, HR1.out, HF1.out, HA1.out⟩
end Go.Proofs.Ytoidlmhebnlnbaa
