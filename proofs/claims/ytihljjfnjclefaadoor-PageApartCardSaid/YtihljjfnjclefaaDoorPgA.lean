/- page: what the walks use. -/
import Derived.Test.YtihljjfnjclefaaDoorCpy
import Derived.Test.YtihljjfnjclefaaDoorPgP
import Derived.Test.YtihljjfnjclefaaDoorCrcW
import Derived.Test.YtihljjfnjclefaaDoorOctC
import Derived.Test.YtihljjfnjclefaaDoorRdrA
import Derived.Test.YtihljjfnjclefaaDoorStr
import Derived.Laws.BitsLemmas
import Derived.Deep.Cut
import Derived.Deep.CutRange
set_option linter.unusedVariables false
set_option linter.unusedSimpArgs false
namespace Go.Proofs.YtihljjfnjclefaaDoor
open Go.ChangeShapes Go.WideShapes Go.ChangeAt Go.RowKit
attribute [local go_sem] nb_nonneg nb_lt8 nb_lt64
set_option maxRecDepth 100000

theorem results_cell2 {P : Program} {fn : Func} {a : Tmp} {ty : TypeId} {u : Tmp} (h : fn.results = #[.cell a ty, .tmp u]) (tmps : Array Value) (g : Nat) (hg : tmps.getD a undef = .pointer (some ⟨g, 0, none⟩)) (w : World) (v : Value)
    (hl : (loadVar ty ⟨g, 0, none⟩).run P w = .ok v w) : (results fn tmps).run P w = .ok (.tuple #[v, tmps.getD u undef]) w := by
  have hg' : tmps[a]?.getD undef = .pointer (some ⟨g, 0, none⟩) := by simpa using hg
  simp [results, h, hg', asAddr, hl]
theorem FB.setRow {w0 w : World} (h : FB w0 w) {g : Nat} (hg : w0.heap.size ≤ g) (cs : Array Value) : FB w0 (w.setRow g cs) := below_setRow h hg cs
theorem TB.setRow (g : Nat) (w : World) (cs : Array Value) : TB g w (w.setRow g cs) := ⟨rfl, rfl, rfl, by simp, fun k _ hk => setRow_other w g k cs (fun e => hk (by simp [e]))⟩
theorem row2 {W : World} {g : Nat} {a b : Value} {t : TypeId} {fr : Nat × Nat} (h : W.heap[g]? = some (.cells #[a, b] t fr)) : W.cell? ⟨g, 0, none⟩ = some a ∧ W.cell? ⟨g, 1, none⟩ = some b := by
  refine ⟨?_, ?_⟩ <;> (rw [cell_of_row _ _ _ _ _ _ h]; rfl)
theorem prow3 {W : World} {g : Nat} {a b c : Value} {t : TypeId} {fr : Nat × Nat} (h : W.heap[g]? = some (.cells #[a, b, c] t fr)) : W.cell? ⟨g, 0, none⟩ = some a ∧ W.cell? ⟨g, 1, none⟩ = some b ∧ W.cell? ⟨g, 2, none⟩ = some c := by
  refine ⟨?_, ?_, ?_⟩ <;> (rw [cell_of_row _ _ _ _ _ _ h]; rfl)
theorem OwnV.head0 {e : TypeId} {w : World} {base n : Nat} {A : Option Addr} {c : Nat} {vs : List Value} (h : OwnV e w base (.slice A n c) vs) (hn : 0 < vs.length) : ∃ g, A = some ⟨g, 0, none⟩ ∧ base ≤ g ∧ g < w.heap.size := by
  rcases h.2 with ⟨h', h0⟩ | ⟨g, cap, cur, h', hb, hg, _⟩
  · omega
  · simp only [Value.slice.injEq] at h'
    exact ⟨g, h'.1, hb, (Array.getElem?_eq_some_iff.1 hg).1⟩
theorem bl_cell {N : Nat} {w W : World} {a : Addr} {v : Value} (h : Below N w W) (hc : w.cell? a = some v) (ha : a.block < N) : W.cell? a = some v := (Below.cell h ha).trans hc
theorem ts_grownC {g : Nat} {w w' : World} {o : Option Nat} (h : w.grownBy w' o) : TS (g :: o.toList) w w' :=
  ⟨h.os, h.tape, h.output, h.size, fun k hk hn => h.block k hk (fun e => hn (by rw [← e]; simp))⟩
theorem sch_storeR {P : Program} {ops : Array Oper} {Q : Exit → Act → World → Prop} {E : World → World → Prop} {i : Nat} {σ : List (Nat × Bool)} {o : Oper} {a : Act} {w w' : World} (hi : ops[i]? = some o) (hw : Region.wanted o (yielded ops a.tmps) = true) (ty : TypeId) (x y : Operand) (ho : o.op = .store ty x y) (hd : o.dst = none)
    (vx v : Value) (hx : a.eval x = vx) (hy : a.eval y = v) (hr : (Instr.storeAt ty vx v).run P w = .ok () w') (hE : E w w') (h : wpSch P ops Q E σ a w') : wpSch P ops Q E ((i, false) :: σ) a w := by
  refine sch_eff hi hw fun K hK => ?_
  unfold Oper.wp execOp
  simp only [ho, Sem.run_bind, Sem.run_pure, Result.andThen_ok, hx, hy, hr]
  refine hK _ _ hE ?_
  rw [hd]; exact h
/-- A page, as a value. -/
def pgV (K : Int) (n : BitVec 32) (A : Option Addr) (l c : Nat) : Value := .agg #[.int .i64 K, .int .u32 (nb n), .slice A l c]
theorem pg_load {w : World} {g : Nat} {x y z : Value} (hw : w.heap[g]? = some (.cells #[x, y, z] 25 (0, 0))) : (loadVar 25 ⟨g, 0, none⟩).run Tryd.prog w = .ok (.agg #[x, y, z]) w :=
  run_loadVar_row w g _ _ _ _ _ hw Tryd.underlying25 rfl (by kernel_rfl)
theorem pg_ret {fn : Func} {a : Tmp} {u : Tmp} (h : fn.results = #[.cell a 25, .tmp u]) (tmps : Array Value) (g : Nat) (hg : tmps.getD a undef = .pointer (some ⟨g, 0, none⟩)) (w : World) {x y z : Value}
    (hw : w.heap[g]? = some (.cells #[x, y, z] 25 (0, 0))) : (results fn tmps).run Tryd.prog w = .ok (.tuple #[.agg #[x, y, z], tmps.getD u undef]) w :=
  results_cell2 h tmps g hg w _ (pg_load hw)
theorem pg_store {W : World} {g : Nat} {a b c : Value} (x y z : Value) (h : W.heap[g]? = some (.cells #[a, b, c] 25 (0, 0))) (h1 : (#[x, y, z]).all (·.oneCell') = true) :
    (Instr.storeAt 25 (.pointer (some ⟨g, 0, none⟩)) (.agg #[x, y, z])).run Tryd.prog W = .ok () (W.setRow g #[x, y, z]) := by
  simp only [Instr.storeAt, Instr.sureAddr, Sem.run_bind, Sem.run_pure, Result.andThen]
  exact run_storeVar_row W g _ _ _ _ h (by kernel_rfl) rfl h1
set_option maxHeartbeats 400000 in
theorem by_Equal (xs ys : List Byte) (A B : Option Addr) (ca cb : Nat) (w : World) (ha : Rd w A xs) (hb : Rd w B ys) :
    Calls Tryd.prog 41 #[.slice A xs.length ca, .slice B ys.length cb] w fun e w' => e = .returned (.bool (decide (xs = ys))) ∧ w = w' := by
  have hs1 := run_string ca ha
  have hs2 := run_string cb hb
  by_cases h : xs = ys
  · have hse : ((sb xs).toList == (sb ys).toList) = true := by rw [sb_beq]; simpa using h
    have HD := Lib.hid (decide_eq_true h)
    clear ha hb h
    go_enter Tryd.func41, Tryd.ntmps41
    go_wp2
    go_ret
    exact ⟨by rw [HD.out]; rfl, rfl⟩
  · have hse : ((sb xs).toList == (sb ys).toList) = false := by rw [sb_beq]; simpa using h
    have HD := Lib.hid (decide_eq_false h)
    clear ha hb h
    go_enter Tryd.func41, Tryd.ntmps41
    go_wp2
    go_ret
    exact ⟨by rw [HD.out]; rfl, rfl⟩
set_option maxHeartbeats 400000 in
theorem by_trimB (xs : List Byte) (A : Option Addr) (c : Nat) (w : World) (hx : xs.length ≤ 1000000000) (hc : xs.length ≤ c) (hm : c ≤ maxLen) (hr : Rd w A xs) :
    Calls Tryd.prog 67 #[.slice A xs.length c, .int .u8 0] w fun e w' => e = .returned (.slice A (trimz xs).length c) ∧ w = w' := by
  have HR := Lib.hid hr
  have HX := Lib.hid hx
  have HC := Lib.hid hc
  have hcm : (c : Int) ≤ 9223372036854775807 := by unfold maxLen at hm; omega
  clear hr hm hx hc
  go_enter Tryd.func67, Tryd.ntmps67
  go_wp2_with fail
  go_loop [0] (fun s => ∃ k : Nat, k ≤ xs.length ∧ s = .slice A k c ∧ Hid (trimz (xs.take k) = trimz xs)) (fun s => match s with | .slice _ k _ => k | _ => 0)
  case atStart => exact ⟨xs.length, Nat.le_refl _, rfl, Lib.hid (by rw [List.take_length])⟩
  case round =>
    obtain ⟨k, hk, rfl, HT⟩ := hrel
    cases k with
    | zero =>
      have HZ := Lib.hid (show trimz xs = [] from by rw [← HT.out]; rfl)
      go_wp2
      go_ret
      exact ⟨by rw [HZ.out]; rfl, rfl⟩
    | succ k =>
      obtain ⟨b, o, rfl, -, hcs⟩ := HR.out.form (by omega)
      have hcell := hcs k (by omega)
      obtain ⟨x, hx⟩ : ∃ x, x = xs[k] := ⟨_, rfl⟩
      have HTS := Lib.hid (show xs.take (k + 1) = xs.take k ++ [x] from by rw [hx, List.take_succ_eq_append_getElem])
      rw [← hx] at hcell
      unfold vb at hcell
      have hkz : ((k + 1 : Nat) : Int) = (k : Int) + 1 := by omega
      have hk0 : (0 : Int) < (k : Int) + 1 := by omega
      have hwk : IntKind.i64.wrap (k : Int) = (k : Int) := by rw [IntKind.wrap_i64]; have := HX.out; omega
      have hkc : (k : Int) ≤ (c : Int) := by have := HC.out; omega
      have hkl : (k : Int) < (k : Int) + 1 := by omega
      have HK := Lib.hid hk
      clear hcs hx hk
      by_cases h0 : x = 0#8
      · have hb : (nb x == 0) = true := by rw [h0]; rfl
        have HT2 := Lib.hid (show trimz (xs.take k) = trimz xs from by rw [← HT.out, HTS.out, h0, trimz_zero])
        clear h0
        go_wp2
        go_round
        case rel => exact ⟨k, by have := HK.out; omega, rfl, HT2.out⟩
        case measure => simp
      · have hb : (nb x == 0) = false := by rw [nb_beq0]; simpa using h0
        have HT2 := Lib.hid (show (trimz xs).length = k + 1 from by rw [← HT.out, HTS.out, trimz_other _ h0]; have := HK.out; simp; omega)
        clear h0
        go_wp2
        go_ret
        exact ⟨by rw [HT2.out]; rfl, rfl⟩
set_option maxHeartbeats 400000 in
theorem by_Trim (xs : List Byte) (A : Option Addr) (c : Nat) (w : World) (hx : xs.length ≤ 1000000000) (hc : xs.length ≤ c) (hm : c ≤ maxLen) (hr : Rd w A xs) :
    Calls Tryd.prog 44 #[.slice A xs.length c, .string ⟨#[0]⟩] w fun e w' => e = .returned (.slice A (trimz xs).length c) ∧ w = w' := by
  have HT := Lib.hid (by_trimB xs A c w hx hc hm hr)
  clear hc hm hr
  cases xs with
  | nil =>
    go_enter Tryd.func44, Tryd.ntmps44
    go_wp2
    go_ret
    exact ⟨rfl, rfl⟩
  | cons y ys =>
    have hl : (((y :: ys).length : Int) == 0) = false := by simp; omega
    have HL := Lib.hid hl
    generalize hxs : (y :: ys) = xs at *
    clear hxs
    go_enter Tryd.func44, Tryd.ntmps44
    go_wp2_with fail
    refine HT.out.mono ?_
    rintro e w1 ⟨rfl, rfl⟩
    clear HT
    go_wp2
    go_ret
    exact ⟨rfl, rfl⟩
end Go.Proofs.YtihljjfnjclefaaDoor
