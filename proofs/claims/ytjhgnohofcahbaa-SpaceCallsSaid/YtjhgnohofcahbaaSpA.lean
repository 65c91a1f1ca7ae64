/- space: a space as it lies; the walks through Check, slices.Clone of bools, with. -/
import Derived.Test.YtjhgnohofcahbaaRecC
import Derived.Test.YtjhgnohofcahbaaSchB
import Derived.Test.YtjhgnohofcahbaaTs
import Derived.Test.YtjhgnohofcahbaaMk
import Derived.WalkSpells
set_option linter.unusedVariables false
set_option linter.unusedSimpArgs false
namespace Go.Proofs.Ytjhgnohofcahbaa
open Go.ChangeShapes Go.WideShapes Go.ChangeAt Go.RowKit
attribute [local go_sem] nb_nonneg nb_lt8 nb_lt64
set_option maxRecDepth 100000

theorem results_cell3 {P : Program} {fn : Func} {a b c : Tmp} {ta tb tc : TypeId} (h : fn.results = #[.cell a ta, .cell b tb, .cell c tc]) (tmps : Array Value) (g1 g2 g3 : Nat) (hg1 : tmps.getD a undef = .pointer (some ⟨g1, 0, none⟩)) (hg2 : tmps.getD b undef = .pointer (some ⟨g2, 0, none⟩)) (hg3 : tmps.getD c undef = .pointer (some ⟨g3, 0, none⟩)) (w : World) (v1 v2 v3 : Value)
    (hl1 : (loadVar ta ⟨g1, 0, none⟩).run P w = .ok v1 w) (hl2 : (loadVar tb ⟨g2, 0, none⟩).run P w = .ok v2 w) (hl3 : (loadVar tc ⟨g3, 0, none⟩).run P w = .ok v3 w) : (results fn tmps).run P w = .ok (.tuple #[v1, v2, v3]) w := by
  have hg1' : tmps[a]?.getD undef = .pointer (some ⟨g1, 0, none⟩) := by simpa using hg1
  have hg2' : tmps[b]?.getD undef = .pointer (some ⟨g2, 0, none⟩) := by simpa using hg2
  have hg3' : tmps[c]?.getD undef = .pointer (some ⟨g3, 0, none⟩) := by simpa using hg3
  simp [results, h, hg1', hg2', hg3', asAddr, hl1, hl2, hl3]
/-- A space, as a value. -/
def spV (P : Int) (A : Option Addr) (n c : Nat) : Value := .agg #[.int .i64 P, .slice A n c]
theorem sp_load {w : World} {g : Nat} {x y : Value} (hw : w.heap[g]? = some (.cells #[x, y] 41 (0, 0))) : (loadVar 41 ⟨g, 0, none⟩).run Try.prog w = .ok (.agg #[x, y]) w :=
  run_loadVar_row w g _ _ _ _ _ hw Try.underlying41 rfl (by kernel_rfl)
theorem sp_ret {fn : Func} {a : Tmp} {u : Tmp} (h : fn.results = #[.cell a 41, .tmp u]) (tmps : Array Value) (g : Nat) (hg : tmps.getD a undef = .pointer (some ⟨g, 0, none⟩)) (w : World) {x y : Value}
    (hw : w.heap[g]? = some (.cells #[x, y] 41 (0, 0))) : (results fn tmps).run Try.prog w = .ok (.tuple #[.agg #[x, y], tmps.getD u undef]) w :=
  results_cell2 h tmps g hg w _ (sp_load hw)
theorem sp_store {W : World} {g : Nat} {a b : Value} (x y : Value) (h : W.heap[g]? = some (.cells #[a, b] 41 (0, 0))) (h1 : (#[x, y]).all (·.oneCell') = true) :
    (Instr.storeAt 41 (.pointer (some ⟨g, 0, none⟩)) (.agg #[x, y])).run Try.prog W = .ok () (W.setRow g #[x, y]) := by
  simp only [Instr.storeAt, Instr.sureAddr, Sem.run_bind, Sem.run_pure, Result.andThen]
  exact run_storeVar_row W g _ _ _ _ h (by kernel_rfl) rfl h1
theorem row2 {W : World} {g : Nat} {a b : Value} {t : TypeId} {fr : Nat × Nat} (h : W.heap[g]? = some (.cells #[a, b] t fr)) : W.cell? ⟨g, 0, none⟩ = some a ∧ W.cell? ⟨g, 1, none⟩ = some b := by
  refine ⟨?_, ?_⟩ <;> (rw [cell_of_row _ _ _ _ _ _ h]; rfl)
theorem sp_rowp : (Try.prog.info? 41).map (·.size) = some 2 := by kernel_rfl
/-- Bools in memory. -/
theorem RdV.bcell {w : World} {A : Option Addr} {us : List Bool} (h : RdV w A (us.map .bool)) {j : Nat} (hj : j < us.length) : ∃ b o, A = some ⟨b, o, none⟩ ∧ w.cell? ⟨b, o + j, none⟩ = some (.bool us[j]) := by
  obtain ⟨b, o, e, -, h2⟩ := RdV.form h (by simp; omega)
  have := h2 j (by simpa using hj)
  rw [List.getElem_map] at this
  exact ⟨b, o, e, this⟩
/-- May a space be? -/
def spOk (P : Int) (us : List Bool) : Bool := decide (8 ≤ P) && decide (P ≤ 4096) && decide ((us.length : Int) = P) && us.getD 0 false && us.getD 1 false
theorem spOk_iff {P : Int} {us : List Bool} : spOk P us = true ↔ 8 ≤ P ∧ P ≤ 4096 ∧ (us.length : Int) = P ∧ us.getD 0 false = true ∧ us.getD 1 false = true := by
  unfold spOk
  simp only [Bool.and_eq_true, decide_eq_true_eq]
  constructor
  · rintro ⟨⟨⟨⟨a, b⟩, c⟩, d⟩, e⟩; exact ⟨a, b, c, d, e⟩
  · rintro ⟨a, b, c, d, e⟩; exact ⟨⟨⟨⟨a, b⟩, c⟩, d⟩, e⟩
/-- What Check returns. -/
def spChk (P : Int) (us : List Bool) : Int := if spOk P us then 0 else 2
set_option maxHeartbeats 1000000 in
theorem sp_Check (P : Int) (us : List Bool) (A : Option Addr) (c : Nat) (w : World) (hr : RdV w A (us.map .bool)) (hl : us.length ≤ 9223372036854775807) :
    Calls Try.prog 25 #[.agg #[.int .i64 P, .slice A us.length c]] w fun e w' => e = .returned (.int .i64 (spChk P us)) ∧ FB w w' := by
  have HF := Lib.hid ((FB.refl w).alloc (.cells #[.int .i64 P, .slice A us.length c] 41))
  have HR := Lib.hid (HF.out.rdV hr)
  obtain ⟨R, hR⟩ : ∃ R, R = spChk P us := ⟨_, rfl⟩
  rw [← hR]
  unfold spChk at hR
  clear hr
  by_cases h1 : P < 8
  · obtain rfl : R = 2 := by rw [hR, if_neg (by rw [spOk_iff]; omega)]
    clear hR
    go_enter Try.func25, Try.ntmps25
    go_wp2
    go_ret
    exact ⟨rfl, HF.out⟩
  · by_cases h2 : 4096 < P
    · obtain rfl : R = 2 := by rw [hR, if_neg (by rw [spOk_iff]; omega)]
      clear hR
      go_enter Try.func25, Try.ntmps25
      go_wp2
      go_ret
      exact ⟨rfl, HF.out⟩
    · by_cases h3 : (us.length : Int) = P
      · have hb3 : ((us.length : Int) != P) = false := by simp [h3]
        obtain ⟨b, o, rfl, hc0⟩ := RdV.bcell HR.out (j := 0) (by omega)
        obtain ⟨b', o', e', hc1⟩ := RdV.bcell HR.out (j := 1) (by omega)
        cases e'
        rw [Nat.add_zero] at hc0
        have hl0 : (0 : Int) < (us.length : Int) := by omega
        have hl1 : (1 : Int) < (us.length : Int) := by omega
        have hg0 : us.getD 0 false = us[0]'(by omega) := by rw [List.getD_eq_getElem?_getD, List.getElem?_eq_getElem (by omega)]; rfl
        have hg1 : us.getD 1 false = us[1]'(by omega) := by rw [List.getD_eq_getElem?_getD, List.getElem?_eq_getElem (by omega)]; rfl
        have hok : spOk P us = (us.getD 0 false && us.getD 1 false) := by
          unfold spOk
          rw [decide_eq_true (by omega : 8 ≤ P), decide_eq_true (by omega : P ≤ 4096), decide_eq_true h3]; rfl
        rw [hok, hg0, hg1] at hR
        clear hok hg0 hg1
        generalize us[0]'(by omega) = b0 at *
        generalize us[1]'(by omega) = b1 at *
        have HRR := Lib.hid hR
        clear hR h3
        go_enter Try.func25, Try.ntmps25
        cases b0
        · have hrr : R = 2 := by rw [HRR.out]; rfl
          have HRR2 := Lib.hid hrr
          clear hrr
          go_wp2
          go_ret
          exact ⟨by rw [HRR2.out]; rfl, HF.out⟩
        · cases b1
          · have hrr : R = 2 := by rw [HRR.out]; rfl
            have HRR2 := Lib.hid hrr
            clear hrr
            go_wp2
            go_ret
            exact ⟨by rw [HRR2.out]; rfl, HF.out⟩
          · have hrr : R = 0 := by rw [HRR.out]; rfl
            have HRR2 := Lib.hid hrr
            clear hrr
            go_wp2
            go_ret
            exact ⟨by rw [HRR2.out]; rfl, HF.out⟩
      · have hb3 : ((us.length : Int) != P) = true := by simpa using h3
        obtain rfl : R = 2 := by rw [hR, if_neg (by rw [spOk_iff]; omega)]
        clear hR h3
        go_enter Try.func25, Try.ntmps25
        go_wp2
        go_ret
        exact ⟨rfl, HF.out⟩
theorem info_b : (Try.prog.info? 4).map (fun i => (i.zero, i.size, i.bytes)) = some (some (.bool false), 1, 1) := by kernel_rfl
theorem one_bools (us : List Bool) : ∀ u ∈ us.map Value.bool, u.oneCell' = true := fun u hu => by obtain ⟨b, -, rfl⟩ := List.mem_map.1 hu; rfl
set_option maxHeartbeats 400000 in
theorem sl_CloneB (us : List Bool) (A : Option Addr) (n c : Nat) (w : World) (hn : n = us.length) (hm : us.length ≤ 1000000000) (hr : RdV w A (us.map .bool)) :
    Calls Try.prog 63 #[.slice A n c] w fun e w' => ∃ A' c', e = .returned (.slice A' n c') ∧ OwnV 4 w' w.heap.size (.slice A' n c') (us.map .bool) ∧ FB w w' := by
  subst hn
  have HR := Lib.hid hr
  cases A with
  | none =>
    have hx : us = [] := by
      cases us with
      | nil => rfl
      | cons y ys => obtain ⟨b, o, e, _⟩ := hr 0 (by simp); cases e
    subst hx
    have hq : ∀ W, (binOp .eql 39 (.slice none 0 c) (.slice none 0 0)).run Try.prog W = .ok (.bool true) W := fun W => Lib.run_eql_slice_nil W _ 4 none _ c 0 0 Try.underlying39
    clear hr
    simp only [List.length_nil]
    go_enter Try.func63, Try.ntmps63
    go_wp2
    go_ret
    exact ⟨none, 0, rfl, OwnV.nil _ _ _, FB.refl _⟩
  | some ad =>
    have hq : ∀ W, (binOp .eql 39 (.slice (some ad) us.length c) (.slice none 0 0)).run Try.prog W = .ok (.bool false) W := fun W => Lib.run_eql_slice_nil W _ 4 (some ad) _ c 0 0 Try.underlying39
    clear hr
    go_enter Try.func63, Try.ntmps63
    go_wp2_with (at_builtin; refine wpList_append_any rfl _ _ 39 4 1 (.bool false) Try.underlying39 info_b rfl rfl w.heap.size _ [] (OwnV.lit _ w [] (by simp)) rfl (some ad) _ c (us.map .bool) (by simp) rfl (HR.out.alloc _) (one_bools us) (by simp [maxLen]; omega) (by simp; omega) (by simp) ?_; intro v' w1 ho hg _; have HO := Lib.hid ho; have HG := Lib.hid hg; clear ho hg)
    go_ret
    have ho := HO.out
    rw [List.nil_append] at ho
    obtain ⟨A', c', e1, -, -, h3, h4⟩ := OwnV.form ho
    rw [List.length_map] at e1
    exact ⟨A', c', by simp [e1], e1 ▸ ho, ((FB.refl w).alloc _).grown HG.out (by simp [Value.ownBlock])⟩
end Go.Proofs.Ytjhgnohofcahbaa
