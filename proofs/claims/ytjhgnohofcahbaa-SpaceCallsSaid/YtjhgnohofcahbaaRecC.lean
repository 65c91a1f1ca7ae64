/- record: the walk through Make. -/
import Derived.Test.YtjhgnohofcahbaaRecB
import Derived.Laws.CopyOwn
set_option linter.unusedVariables false
set_option linter.unusedSimpArgs false
namespace Go.Proofs.Ytjhgnohofcahbaa
open Go.ChangeShapes Go.WideShapes Go.ChangeAt Go.RowKit
attribute [local go_sem] nb_nonneg nb_lt8 nb_lt64

theorem results_cell2 {P : Program} {fn : Func} {a : Tmp} {ty : TypeId} {u : Tmp} (h : fn.results = #[.cell a ty, .tmp u]) (tmps : Array Value) (g : Nat) (hg : tmps.getD a undef = .pointer (some ⟨g, 0, none⟩)) (w : World) (v : Value)
    (hl : (loadVar ty ⟨g, 0, none⟩).run P w = .ok v w) : (results fn tmps).run P w = .ok (.tuple #[v, tmps.getD u undef]) w := by
  have hg' : tmps[a]?.getD undef = .pointer (some ⟨g, 0, none⟩) := by simpa using hg
  simp [results, h, hg', asAddr, hl]
theorem rec_ret {fn : Func} {a : Tmp} {u : Tmp} (h : fn.results = #[.cell a 24, .tmp u]) (tmps : Array Value) (g : Nat) (hg : tmps.getD a undef = .pointer (some ⟨g, 0, none⟩)) (w : World) {x y z v : Value}
    (hw : w.heap[g]? = some (.cells #[x, y, z, v] 24 (0, 0))) : (results fn tmps).run Try.prog w = .ok (.tuple #[.agg #[x, y, z, v], tmps.getD u undef]) w :=
  results_cell2 h tmps g hg w _ (run_loadVar_row w g _ _ _ _ _ hw Try.underlying24 rfl (by kernel_rfl))
/-- No record, and an error. -/
def rec0 : Value := recV none 0 0 0 0 none 0 0
def okMake (ks vs : List Byte) (over : Int) : Prop := (1 ≤ ks.length ∧ ks.length ≤ 512) ∧ vs.length ≤ 131072 ∧ 0 ≤ over ∧ over ≤ 65536 ∧ (over == 0) = recFits ks vs
/-- What Make, and Read, leave: a record that may be. -/
def RecRes (ks vs : List Byte) (over size : Int) (w : World) (e : Ending) (w' : World) : Prop :=
  ∃ A c B d, e = .returned (.tuple #[recV A ks.length c over size B vs.length d, .int .i64 0]) ∧ Rd w' A ks ∧ Rd w' B vs ∧ FB w w' ∧ ks.length ≤ c ∧ c ≤ maxLen ∧ (∀ ad, A = some ad ∨ B = some ad → w.heap.size ≤ ad.block)
theorem store_rec {W : World} {g : Nat} {a b c d : Value} (x y z v : Value) (h : W.heap[g]? = some (.cells #[a, b, c, d] 24 (0, 0))) (h1 : (#[x, y, z, v]).all (·.oneCell') = true) :
    (Instr.storeAt 24 (.pointer (some ⟨g, 0, none⟩)) (.agg #[x, y, z, v])).run Try.prog W = .ok () (W.setRow g #[x, y, z, v]) := by
  simp only [Instr.storeAt, Instr.sureAddr, Sem.run_bind, Sem.run_pure, Result.andThen]
  exact run_storeVar_row W g _ _ _ _ h (by kernel_rfl) rfl h1
theorem FB.setRow {w0 w : World} (h : FB w0 w) {g : Nat} (hg : w0.heap.size ≤ g) (cs : Array Value) : FB w0 (w.setRow g cs) := below_setRow h hg cs
theorem TB.setRow (g : Nat) (w : World) (cs : Array Value) : TB g w (w.setRow g cs) := ⟨rfl, rfl, rfl, by simp, fun k _ hk => setRow_other w g k cs (fun e => hk (by simp [e]))⟩
/-- Check of a record with these parts. -/
theorem rec_CheckN (ks vs : List Byte) (over size rc : Int) (h : rcheck ks.length over size vs.length = rc) (A B : Option Addr) (c d : Nat) (w : World) :
    Calls Try.prog 16 #[.agg #[.slice A ks.length c, .int .i64 over, .int .i64 size, .slice B vs.length d]] w fun e w' => e = .returned (.int .i64 rc) ∧ FB w w' := by
  rw [← h]; exact rec_Check A _ c over size B _ d w
set_option maxRecDepth 100000 in
set_option maxHeartbeats 1000000 in
theorem rec_Make_bad (ks vs : List Byte) (over : Int) (A B : Option Addr) (n c m d : Nat) (w : World) (hn : n = ks.length) (hm : m = vs.length) (hr : Rd w A ks) (hq : Rd w B vs) (h : ¬ okMake ks vs over) :
    Calls Try.prog 20 #[.slice A n c, .slice B m d, .int .i64 over] w fun e w' => e = .returned (.tuple #[rec0, .int .i64 2]) ∧ FB w w' := by
  subst hn hm
  have HR := Lib.hid hr
  have HQ := Lib.hid hq
  clear hr hq
  have HFIT := Lib.hid (fun W (k1 : Rd W A ks) (k2 : Rd W B vs) => rec_Fits ks vs A B _ c _ d W rfl rfl k1 k2)
  have HCL := Lib.hid (fun (h5 : ks.length ≤ 512) W (k1 : Rd W A ks) => bytes_Clone ks A _ c W rfl (by omega) k1)
  by_cases h1 : 1 ≤ ks.length ∧ ks.length ≤ 512
  · have HKEY := Lib.hid (fun W => show Calls Try.prog 52 #[.slice A ks.length c] W fun e w' => e = .returned (.bool true) ∧ W = w' from by have := rec_key A ks.length c W; rw [decide_eq_true h1] at this; exact this)
    by_cases h2 : vs.length ≤ 131072
    · have hd2 : decide (131072 < (vs.length : Int)) = false := by simp; omega
      by_cases h3 : over < 0
      · clear h
        go_enter Try.func20, Try.ntmps20
        go_wp2_with fail
        refine (HKEY.out _).mono ?_
        rintro e w1 ⟨rfl, rfl⟩
        go_wp2
        try simp only [Exit.inBlock, Exit.then]
        refine bodyPost_ret (rec_ret rfl _ w.heap.size rfl _ (heap_alloc_new _ _)) rfl ?_
        exact ⟨rfl, (FB.refl w).alloc _⟩
      · by_cases h4 : (over == 0) = recFits ks vs
        · have h5 : 65536 < over := by
            by_cases h5 : 65536 < over
            · exact h5
            · exact absurd ⟨h1, h2, by omega, by omega, h4⟩ h
          have h6 : (over == 0) = false := beq_eq_false_iff_ne.2 (by omega)
          rw [← h4, h6] at HFIT
          have HCK := Lib.hid (fun A B c d W => rec_CheckN ks [] over vs.length 2 (by unfold rcheck; rw [if_pos (by omega)]) A B c d W)
          have HK5 := Lib.hid h1.2
          clear h h4
          go_enter Try.func20, Try.ntmps20
          go_wp2_with fail
          refine (HKEY.out _).mono ?_
          rintro e w1 ⟨rfl, rfl⟩
          go_wp2_with fail
          refine (HFIT.out _ (HR.out.alloc _) (HQ.out.alloc _)).mono ?_
          rintro e w1 ⟨rfl, hf⟩
          have HB1 := Lib.hid hf
          have HF1 := Lib.hid (((FB.refl w).alloc (.cells #[.slice none 0 0, .int .i64 0, .int .i64 0, .slice none 0 0] 24)).trans hf)
          clear hf
          go_wp2_with fail
          refine (HCL.out HK5.out _ (HF1.out.rd HR.out)).mono ?_
          rintro e w2 ⟨v2, rfl, ho, hf⟩
          obtain ⟨A2, c2, rfl, -, -, hr2, -⟩ := Own.form ho
          have HB2 := Lib.hid (HB1.out.trans hf)
          have HF2 := Lib.hid (HF1.out.trans hf)
          clear ho hf hr2
          go_wp2_with fail
          refine (HCK.out A2 none c2 0 _).mono ?_
          rintro e w3 ⟨rfl, hf⟩
          have HB3 := Lib.hid ((HB2.out.alloc _).trans hf)
          have HF3 := Lib.hid ((HF2.out.alloc _).trans hf)
          have hrow := box_row HB3.out
          have hs := store_rec (.slice none 0 0) (.int .i64 0) (.int .i64 0) (.slice none 0 0) hrow (by simp [Value.oneCell'])
          have HROW := Lib.hid (setRow_heap w3 w.heap.size _ #[.slice none 0 0, .int .i64 0, .int .i64 0, .slice none 0 0] _ _ hrow)
          clear hf hrow
          go_wp2_with (refine wpList_store_by rfl _ _ _ rfl _ hs ?_)
          try simp only [Exit.inBlock, Exit.then]
          refine bodyPost_ret (rec_ret rfl _ w.heap.size rfl _ HROW.out) rfl ?_
          exact ⟨rfl, HF3.out.setRow (Nat.le_refl _) _⟩
        · have h6 : ((over == 0) == recFits ks vs) = false := beq_eq_false_iff_ne.2 h4
          have h7 : decide (over < 0) = false := by simpa using h3
          generalize recFits ks vs = fit at *
          clear h h4
          go_enter Try.func20, Try.ntmps20
          go_wp2_with fail
          refine (HKEY.out _).mono ?_
          rintro e w1 ⟨rfl, rfl⟩
          go_wp2_with fail
          refine (HFIT.out _ (HR.out.alloc _) (HQ.out.alloc _)).mono ?_
          rintro e w1 ⟨rfl, hf⟩
          have HB1 := Lib.hid hf
          have HF1 := Lib.hid (((FB.refl w).alloc (.cells #[.slice none 0 0, .int .i64 0, .int .i64 0, .slice none 0 0] 24)).trans hf)
          have hrow := box_row HB1.out
          have hs := store_rec (.slice none 0 0) (.int .i64 0) (.int .i64 0) (.slice none 0 0) hrow (by simp [Value.oneCell'])
          have HROW := Lib.hid (setRow_heap w1 w.heap.size _ #[.slice none 0 0, .int .i64 0, .int .i64 0, .slice none 0 0] _ _ hrow)
          clear hf hrow
          go_wp2_with (refine wpList_store_by rfl _ _ _ rfl _ hs ?_)
          try simp only [Exit.inBlock, Exit.then]
          refine bodyPost_ret (rec_ret rfl _ w.heap.size rfl _ HROW.out) rfl ?_
          exact ⟨rfl, HF1.out.setRow (Nat.le_refl _) _⟩
    · have hd2 : decide (131072 < (vs.length : Int)) = true := by simp; omega
      clear h h2
      go_enter Try.func20, Try.ntmps20
      go_wp2_with fail
      refine (HKEY.out _).mono ?_
      rintro e w1 ⟨rfl, rfl⟩
      go_wp2
      try simp only [Exit.inBlock, Exit.then]
      refine bodyPost_ret (rec_ret rfl _ w.heap.size rfl _ (heap_alloc_new _ _)) rfl ?_
      exact ⟨rfl, (FB.refl w).alloc _⟩
  · have HKEY := Lib.hid (fun W => show Calls Try.prog 52 #[.slice A ks.length c] W fun e w' => e = .returned (.bool false) ∧ W = w' from by have := rec_key A ks.length c W; rw [decide_eq_false h1] at this; exact this)
    clear h h1
    go_enter Try.func20, Try.ntmps20
    go_wp2_with fail
    refine (HKEY.out _).mono ?_
    rintro e w1 ⟨rfl, rfl⟩
    go_wp2
    try simp only [Exit.inBlock, Exit.then]
    refine bodyPost_ret (rec_ret rfl _ w.heap.size rfl _ (heap_alloc_new _ _)) rfl ?_
    exact ⟨rfl, (FB.refl w).alloc _⟩
set_option maxRecDepth 100000 in
set_option maxHeartbeats 1000000 in
theorem rec_Make_ok (ks vs : List Byte) (over : Int) (A B : Option Addr) (n c m d : Nat) (w : World) (hn : n = ks.length) (hm : m = vs.length) (hr : Rd w A ks) (hq : Rd w B vs) (h : okMake ks vs over) :
    Calls Try.prog 20 #[.slice A n c, .slice B m d, .int .i64 over] w (RecRes ks (if over = 0 then vs else []) over vs.length w) := by
  subst hn hm
  obtain ⟨h1, h2, h3, h3b, h4⟩ := h
  have HR := Lib.hid hr
  have HQ := Lib.hid hq
  clear hr hq
  have HFIT := Lib.hid (fun W (k1 : Rd W A ks) (k2 : Rd W B vs) => rec_Fits ks vs A B _ c _ d W rfl rfl k1 k2)
  have HCL := Lib.hid (fun W (k1 : Rd W A ks) => bytes_Clone ks A _ c W rfl (by omega) k1)
  have HCV := Lib.hid (fun W (k1 : Rd W B vs) => bytes_Clone vs B _ d W rfl (by omega) k1)
  have HKEY := Lib.hid (fun W => show Calls Try.prog 52 #[.slice A ks.length c] W fun e w' => e = .returned (.bool true) ∧ W = w' from by have := rec_key A ks.length c W; rw [decide_eq_true h1] at this; exact this)
  have hd2 : decide (131072 < (vs.length : Int)) = false := by simp; omega
  have hd3 : decide (over < 0) = false := by simpa using h3
  by_cases h0 : over = 0
  · subst h0
    rw [← h4] at HFIT
    have HCK := Lib.hid (fun A B c d W => rec_CheckN ks vs 0 vs.length 0 (by unfold rcheck; rw [if_neg (by omega), if_pos rfl, if_pos rfl]) A B c d W)
    rw [if_pos rfl]
    clear h4
    go_enter Try.func20, Try.ntmps20
    go_wp2_with fail
    refine (HKEY.out _).mono ?_
    rintro e w1 ⟨rfl, rfl⟩
    go_wp2_with fail
    refine (HFIT.out _ (HR.out.alloc _) (HQ.out.alloc _)).mono ?_
    rintro e w1 ⟨rfl, hf⟩
    have HB1 := Lib.hid hf
    have HF1 := Lib.hid (((FB.refl w).alloc (.cells #[.slice none 0 0, .int .i64 0, .int .i64 0, .slice none 0 0] 24)).trans hf)
    clear hf
    go_wp2_with fail
    refine (HCL.out _ (HF1.out.rd HR.out)).mono ?_
    rintro e w2 ⟨v2, rfl, ho, hf⟩
    obtain ⟨A2, c2, rfl, hcp, hcx, hr2, hb2⟩ := Own.form ho
    have HCAP := Lib.hid (And.intro hcp hcx)
    have HLB2 := Lib.hid (show ∀ ad, A2 = some ad → w.heap.size ≤ ad.block from fun ad ha => by have := hb2 ad ha; have := HF1.out.le; omega)
    clear hcp hcx
    have hw1 : w.heap.size < w1.heap.size := by have := HB1.out.le; simp at this; omega
    have HN2 := Lib.hid (show ∀ ad, A2 = some ad → ad.block ≠ w.heap.size from fun ad ha => by have := hb2 ad ha; omega)
    have HB2 := Lib.hid (HB1.out.trans hf)
    have HF2 := Lib.hid (HF1.out.trans hf)
    have HR2 := Lib.hid hr2
    have HS2 := Lib.hid (show w.heap.size < w2.heap.size from Nat.lt_of_lt_of_le hw1 hf.le)
    clear ho hf hr2 hb2 hw1
    go_wp2_with fail
    refine (HCV.out _ ((HF2.out.rd HQ.out).alloc _)).mono ?_
    rintro e w3 ⟨v3, rfl, ho, hf⟩
    obtain ⟨A3, c3, rfl, -, -, hr3, hb3⟩ := Own.form ho
    have HX3 := Lib.hid hf
    have HLB3 := Lib.hid (show ∀ ad, A3 = some ad → w.heap.size ≤ ad.block from fun ad ha => by have := hb3 ad ha; have := HF2.out.le; simp at *; omega)
    have HN3 := Lib.hid (show ∀ ad, A3 = some ad → ad.block ≠ w2.heap.size ∧ ad.block ≠ w.heap.size from fun ad ha => by have := hb3 ad ha; have := HS2.out; simp at *; omega)
    have HR3 := Lib.hid hr3
    have hrow := box_row hf
    obtain ⟨q0, q1, q2, q3⟩ := cells4 hrow
    have f3 := frozen_row _ hrow 3
    have HROW := Lib.hid hrow
    clear ho hf hr3 hb3 hrow
    go_wp2_with fail
    have hrow4 : (w3.setCell ⟨w2.heap.size, 3, none⟩ (.slice A3 vs.length c3)).heap[w2.heap.size]? = some (.cells #[.slice A2 ks.length c2, .int .i64 0, .int .i64 vs.length, .slice A3 vs.length c3] 24 (0, 0)) := by
      rw [heap_setCell_same _ _ _ _ _ _ HROW.out]; rfl
    have HT4 := Lib.hid (TB.set (g := w2.heap.size) w3 3 (.slice A3 vs.length c3))
    have HW23 := Lib.hid (show FB w2 w3 from ((FB.refl w2).alloc _).trans HX3.out)
    clear q0 q1 q2 q3 f3
    generalize w3.setCell ⟨w2.heap.size, 3, none⟩ (.slice A3 vs.length c3) = w4 at *
    have HW24 := Lib.hid (HW23.out.tb HT4.out (Nat.le_refl _))
    have HF4 := Lib.hid (HF2.out.trans HW24.out)
    have HB4 := Lib.hid (HB2.out.trans HW24.out)
    have HR24 := Lib.hid (HW24.out.rd HR2.out)
    have HR34 := Lib.hid (TB.rd HT4.out HR3.out (fun ad ha => (HN3.out ad ha).1))
    have HROW4 := Lib.hid hrow4
    have hl := load_rec hrow4
    clear hrow4
    go_wp2_with (refine wpList_load_by rfl _ _ rfl _ hl ?_)
    refine (HCK.out A2 A3 c2 c3 _).mono ?_
    rintro e w5 ⟨rfl, hf⟩
    have hrow5 := (hf.block w2.heap.size (Array.getElem?_eq_some_iff.1 HROW4.out).1).trans HROW4.out
    have hl5 := load_rec hrow5
    have HF5 := Lib.hid (HF4.out.trans hf)
    have HR25 := Lib.hid (hf.rd HR24.out)
    have HR35 := Lib.hid (hf.rd HR34.out)
    have hrow0 := box_row (HB4.out.trans hf)
    have hs := store_rec (.slice A2 ks.length c2) (.int .i64 0) (.int .i64 vs.length) (.slice A3 vs.length c3) hrow0 (by simp [Value.oneCell'])
    have HROW6 := Lib.hid (setRow_heap w5 w.heap.size _ #[.slice A2 ks.length c2, .int .i64 0, .int .i64 vs.length, .slice A3 vs.length c3] _ _ hrow0)
    clear hf hl hrow5 hrow0
    go_wp2_with (first | (refine wpList_load_by rfl _ _ rfl _ hl5 ?_) | (refine wpList_store_by rfl _ _ _ rfl _ hs ?_))
    try simp only [Exit.inBlock, Exit.then]
    refine bodyPost_ret (rec_ret rfl _ w.heap.size rfl _ HROW6.out) rfl ?_
    exact ⟨A2, c2, A3, c3, rfl, (TB.setRow _ _ _).rd HR25.out HN2.out, (TB.setRow _ _ _).rd HR35.out (fun ad ha => (HN3.out ad ha).2), HF5.out.setRow (Nat.le_refl _) _, HCAP.out.1, HCAP.out.2, fun ad h => h.elim (HLB2.out ad) (HLB3.out ad)⟩
  · have h6 : (over == 0) = false := beq_eq_false_iff_ne.2 h0
    rw [← h4, h6] at HFIT
    have HCK := Lib.hid (fun A B c d W => rec_CheckN ks [] over vs.length 0 (by unfold rcheck; rw [if_neg (by omega), if_neg h0]; rfl) A B c d W)
    rw [if_neg h0]
    clear h4
    go_enter Try.func20, Try.ntmps20
    go_wp2_with fail
    refine (HKEY.out _).mono ?_
    rintro e w1 ⟨rfl, rfl⟩
    go_wp2_with fail
    refine (HFIT.out _ (HR.out.alloc _) (HQ.out.alloc _)).mono ?_
    rintro e w1 ⟨rfl, hf⟩
    have HB1 := Lib.hid hf
    have HF1 := Lib.hid (((FB.refl w).alloc (.cells #[.slice none 0 0, .int .i64 0, .int .i64 0, .slice none 0 0] 24)).trans hf)
    clear hf
    go_wp2_with fail
    refine (HCL.out _ (HF1.out.rd HR.out)).mono ?_
    rintro e w2 ⟨v2, rfl, ho, hf⟩
    obtain ⟨A2, c2, rfl, hcp, hcx, hr2, hb2⟩ := Own.form ho
    have HCAP := Lib.hid (And.intro hcp hcx)
    have HLB2 := Lib.hid (show ∀ ad, A2 = some ad → w.heap.size ≤ ad.block from fun ad ha => by have := hb2 ad ha; have := HF1.out.le; omega)
    clear hcp hcx
    have hw1 : w.heap.size < w1.heap.size := by have := HB1.out.le; simp at this; omega
    have HN2 := Lib.hid (show ∀ ad, A2 = some ad → ad.block ≠ w.heap.size from fun ad ha => by have := hb2 ad ha; omega)
    have HB2 := Lib.hid (HB1.out.trans hf)
    have HF2 := Lib.hid (HF1.out.trans hf)
    have HR2 := Lib.hid hr2
    clear ho hf hr2 hb2 hw1
    go_wp2_with fail
    refine (HCK.out A2 none c2 0 _).mono ?_
    rintro e w5 ⟨rfl, hf⟩
    have hl5 := load_rec (box_row hf)
    have HW25 := Lib.hid (((FB.refl w2).alloc (.cells #[.slice A2 ks.length c2, .int .i64 over, .int .i64 vs.length, .slice none 0 0] 24)).trans hf)
    have HF5 := Lib.hid (HF2.out.trans HW25.out)
    have HR25 := Lib.hid (HW25.out.rd HR2.out)
    have hrow0 := box_row (HB2.out.trans HW25.out)
    have hs := store_rec (.slice A2 ks.length c2) (.int .i64 over) (.int .i64 vs.length) (.slice none 0 0) hrow0 (by simp [Value.oneCell'])
    have HROW6 := Lib.hid (setRow_heap w5 w.heap.size _ #[.slice A2 ks.length c2, .int .i64 over, .int .i64 vs.length, .slice none 0 0] _ _ hrow0)
    clear hf hrow0
    go_wp2_with (first | (refine wpList_load_by rfl _ _ rfl _ hl5 ?_) | (refine wpList_store_by rfl _ _ _ rfl _ hs ?_))
    try simp only [Exit.inBlock, Exit.then]
    refine bodyPost_ret (rec_ret rfl _ w.heap.size rfl _ HROW6.out) rfl ?_
    exact ⟨A2, c2, none, 0, rfl, (TB.setRow _ _ _).rd HR25.out HN2.out, Rd.nil _ _, HF5.out.setRow (Nat.le_refl _) _, HCAP.out.1, HCAP.out.2, fun ad h => h.elim (HLB2.out ad) (fun h => by cases h)⟩
end Go.Proofs.Ytjhgnohofcahbaa
