/- space: the free pages one by one (an iterator), and collected: the walks through free, free's closure, slices.AppendSeq, slices.Collect, Free, Count. -/
import Derived.Test.YtjhgnohofcahbaaSpA
import Derived.RangeFuncNested
import Derived.RangeFuncBound
import Derived.RangeFuncCalls
import Derived.RangeFuncLeaves
import Derived.RangeFuncBox
import Derived.Shelf.Abstract
import Derived.OwnWalkIn
import Derived.TacticsInMore
import Derived.LoopNIn
import Derived.LoopIn
import Derived.Maps.AppendAt
set_option linter.unusedVariables false
set_option linter.unusedSimpArgs false
namespace Go.Proofs.Ytjhgnohofcahbaa
open Go.ChangeShapes Go.WideShapes Go.ChangeAt Go.RowKit Go.Shelf
attribute [local go_sem] Oper.semAt_some
set_option maxRecDepth 100000

/-- The free ones among the first k. -/
def frees (us : List Bool) (k : Nat) : List Nat := (List.range k).filter fun i => !us.getD i false
theorem frees_zero (us : List Bool) : frees us 0 = [] := rfl
theorem frees_used {us : List Bool} {k : Nat} (h : us.getD k false = true) : frees us (k + 1) = frees us k := by
  rw [List.getD_eq_getElem?_getD] at h; unfold frees; rw [List.range_succ, List.filter_append]; simp [h]
theorem frees_free {us : List Bool} {k : Nat} (h : us.getD k false = false) : frees us (k + 1) = frees us k ++ [k] := by
  rw [List.getD_eq_getElem?_getD] at h; unfold frees; rw [List.range_succ, List.filter_append]; simp [h]
theorem frees_le (us : List Bool) (k : Nat) : (frees us k).length ≤ k := by
  unfold frees; have := List.length_filter_le (fun i => !us.getD i false) (List.range k); simpa using this
theorem frees_pre (us : List Bool) : ∀ {k m : Nat}, k ≤ m → frees us k <+: frees us m
  | k, 0, h => by obtain rfl : k = 0 := by omega
                  exact List.prefix_refl _
  | k, m + 1, h => by
    by_cases e : k = m + 1
    · subst e; exact List.prefix_refl _
    · refine (frees_pre us (by omega : k ≤ m)).trans ?_
      cases hc : us.getD m false with
      | true => rw [frees_used hc]; exact List.prefix_refl _
      | false => rw [frees_free hc]; exact List.prefix_append _ _
theorem frees_lt {us : List Bool} {k m : Nat} (hk : k < m) (hc : us.getD k false = false) : (frees us k).length < (frees us m).length := by
  have h := (frees_pre us (by omega : k + 1 ≤ m)).length_le
  rw [frees_free hc, List.length_append] at h
  simp at h; omega
theorem getD_at {us : List Bool} {k : Nat} (h : k < us.length) : us.getD k false = us[k] := by rw [List.getD_eq_getElem?_getD, List.getElem?_eq_getElem h]; rfl
/-- The same, each with its bound. -/
def freesF (us : List Bool) : (k : Nat) → k ≤ us.length → List (Fin us.length)
  | 0, _ => []
  | k + 1, h => if us.getD k false then freesF us k (by omega) else freesF us k (by omega) ++ [⟨k, h⟩]
theorem freesF_used {us : List Bool} {k : Nat} (h : k + 1 ≤ us.length) (hc : us.getD k false = true) : freesF us (k + 1) h = freesF us k (by omega) := by rw [freesF, if_pos hc]
theorem freesF_free {us : List Bool} {k : Nat} (h : k + 1 ≤ us.length) (hc : us.getD k false = false) : freesF us (k + 1) h = freesF us k (by omega) ++ [⟨k, h⟩] := by rw [freesF, if_neg (by rw [hc]; simp)]
theorem freesF_val (us : List Bool) : ∀ (k : Nat) (h : k ≤ us.length), (freesF us k h).map (·.1) = frees us k
  | 0, _ => rfl
  | k + 1, h => by
    cases hc : us.getD k false with
    | true => rw [freesF_used h hc, frees_used hc, freesF_val us k]
    | false => rw [freesF_free h hc, frees_free hc, List.map_append, freesF_val us k]; rfl
theorem freesF_len (us : List Bool) (k : Nat) (h : k ≤ us.length) : (freesF us k h).length = (frees us k).length := by rw [← freesF_val us k h, List.length_map]
theorem freesF_pre (us : List Bool) : ∀ {k m : Nat} (hk : k ≤ us.length) (hm : m ≤ us.length), k ≤ m → freesF us k hk <+: freesF us m hm
  | k, 0, hk, hm, h => by obtain rfl : k = 0 := by omega
                          exact List.prefix_refl _
  | k, m + 1, hk, hm, h => by
    by_cases e : k = m + 1
    · subst e; exact List.prefix_refl _
    · refine (freesF_pre us hk (by omega : m ≤ us.length) (by omega : k ≤ m)).trans ?_
      cases hc : us.getD m false with
      | true => rw [freesF_used hm hc]; exact List.prefix_refl _
      | false => rw [freesF_free hm hc]; exact List.prefix_append _ _
set_option maxHeartbeats 2000000 in
theorem free1_in (n : Nat) (hn : 1 ≤ n) (l Bs n₀ : Nat) (A : Option Addr) (c : Nat) (us : List Bool) (hl : us.length ≤ 1000000000) (J Jx : List (Fin us.length) → World → Prop)
    (hY : ∀ (pre : List (Fin us.length)) (x : Fin us.length) (W : World), J pre W → pre.length < (frees us us.length).length → YieldAt Fence.wide (n - 1) Try.prog l #[.int .i64 (x.1 : Int)] W fun e W' =>
      (e = .returned (.bool true) ∧ J (pre ++ [x]) W' ∧ Below n₀ W W') ∨ (e = .returned (.bool false) ∧ Jx (pre ++ [x]) W'))
    (W : World) (hBs : W.cell? ⟨Bs, 1, none⟩ = some (.slice A us.length c)) (hc : ∀ W', Below n₀ W W' → RdV W' A (us.map .bool)) (h0 : J [] W) :
    CallsIn Fence.wide n Try.prog 85 #[.func (.yield l) #[] #[], .pointer (some ⟨Bs, 0, none⟩)] W fun e W' => (∃ v, e = .returned v) ∧
      ((∃ ys, ys = freesF us us.length (Nat.le_refl _) ∧ J ys W') ∨ (∃ pre, pre <+: freesF us us.length (Nat.le_refl _) ∧ Jx pre W')) := by
  have HC := Lib.hid hc
  have HY := Lib.hid hY
  clear hc hY
  refine callsIn_of_wp Try.func85 rfl trivial ?_ rfl
  simp only [Try.ntmps85, List.size_toArray, List.length_cons, List.length_nil, Nat.reduceAdd, Nat.reduceSub, Array.replicate_succ, Array.replicate_zero, List.push_toArray, List.append_toArray, List.nil_append, List.cons_append]
  gi_wp2
  gi_loopw [8] (fun i wr => ∃ (k : Nat) (hk : k ≤ us.length), i = .int .i64 k ∧ J (freesF us k hk) wr ∧ Below n₀ W wr)
    (fun i _ => us.length - (intOf i).toNat)
  case atStart => exact ⟨0, Nat.zero_le _, rfl, h0, Below.refl _ _⟩
  case round =>
    obtain ⟨k, hk, rfl, hJs, hnx⟩ := hrel
    by_cases hlt : k < us.length
    · have hkx : (k : Int) < (us.length : Int) := by omega
      obtain ⟨b, o, rfl, hcell⟩ := RdV.bcell (HC.out wr hnx) hlt
      have HG := Lib.hid (getD_at hlt)
      generalize us[k] = u at *
      cases u
      · obtain ⟨fn, tmps, assign, body, hy, hR⟩ := HY.out _ ⟨k, hlt⟩ wr hJs (by rw [freesF_len]; exact frees_lt hlt HG.out)
        dsimp only at hy
        have HJ := Lib.hid hJs
        have HN := Lib.hid hnx
        clear hJs hnx
        gi_wp2
        refine hR.mono ?_
        rintro e W3 (⟨rfl, hJ3, hk3⟩ | ⟨rfl, hJx3⟩)
        · have HJ3 := Lib.hid (show J (freesF us (k + 1) hlt) W3 from by rw [freesF_free hlt HG.out]; exact hJ3)
          have HN3 := Lib.hid (HN.out.trans hk3)
          clear hJ3 hk3 hy hR
          gi_wp2
          go_roundw
          case rel => exact ⟨k + 1, by omega, by simp, HJ3.out, HN3.out⟩
          case measure => simp [intOf]; omega
        · gi_wp2
          refine bodyPost_ret (results_none rfl _ _ _) rfl ?_
          exact ⟨⟨_, rfl⟩, .inr ⟨_, by rw [← freesF_free hlt HG.out]; exact freesF_pre us hlt (Nat.le_refl _) hlt, hJx3⟩⟩
      · have HJ := Lib.hid (show J (freesF us (k + 1) hlt) wr from by rw [freesF_used hlt HG.out]; exact hJs)
        have HN := Lib.hid hnx
        clear hJs hnx
        gi_wp2
        refine ⟨fun _ h => (by cases h), ?_⟩
        gi_wp2
        go_roundw
        case rel => exact ⟨k + 1, by omega, by simp, HJ.out, HN.out⟩
        case measure => simp [intOf]; omega
    · obtain rfl : k = us.length := by omega
      gi_wp2
      go_end0
      exact ⟨⟨_, rfl⟩, .inl ⟨_, rfl, hJs⟩⟩
set_option maxHeartbeats 400000 in
theorem sp_free (P : Int) (A : Option Addr) (n c : Nat) (w : World) : Calls Try.prog 62 #[.agg #[.int .i64 P, .slice A n c]] w fun e w' => e = .returned (.func (.func 85) #[] #[.pointer (some ⟨w.heap.size, 0, none⟩)]) ∧ w' = w.alloc (.cells #[.int .i64 P, .slice A n c] 41) := by
  have hmf : ∀ (fn : Fn) (first cap : Array Value) (w : World), (Instr.makeFunc fn first cap).run Try.prog w = .ok (.func fn first cap) w := fun _ _ _ _ => rfl
  go_enter Try.func62, Try.ntmps62
  go_wp2
  go_ret
  exact ⟨rfl, rfl⟩
/-- The iterator's word. -/
theorem free_stops (n : Nat) (hn : 1 ≤ n) (P : Int) (A : Option Addr) (c : Nat) (us : List Bool) (hl : us.length ≤ 1000000000) (w0 : World) (hr : RdV w0 A (us.map .bool)) (w : World) (Bs : Nat) (hf : FB w0 w) (hBs : w.cell? ⟨Bs, 1, none⟩ = some (.slice A us.length c)) :
    SeqStopsK Fence.wide n Try.prog 85 #[.pointer (some ⟨Bs, 0, none⟩)] (fun x : Fin us.length => #[Value.int .i64 (x.1 : Int)]) (Below w0.heap.size) (fun ys => ys = freesF us us.length (Nat.le_refl _)) (fun pre => pre <+: freesF us us.length (Nat.le_refl _)) (frees us us.length).length w := fun l J Jx W hW _ _ hY h0 =>
  free1_in n hn l Bs w0.heap.size A c us hl J Jx hY W ((hW.cell (p := ⟨Bs, 1, none⟩) (World.block_lt_of_cell? w _ hBs)).trans hBs) (fun W' hW' => FB.rdV (show FB w0 W' from hf.out.trans ((hW.mono hf.le).trans hW')) hr) h0
theorem info_i : (Try.prog.info? 3).map (fun i => (i.zero, i.size, i.bytes)) = some (some (.int .i64 0), 1, 8) := by kernel_rfl
def ivs (ys : List Nat) : List Value := ys.map fun (x : Nat) => Value.int .i64 (x : Int)
theorem ivs_snoc (pre : List Nat) (x : Nat) : ivs (pre ++ [x]) = ivs pre ++ [.int .i64 (x : Int)] := by simp [ivs]
theorem ivs_len (ys : List Nat) : (ivs ys).length = ys.length := by simp [ivs]
set_option maxHeartbeats 2000000 in
theorem sl_AppendSeq (P : Int) (A : Option Addr) (c : Nat) (us : List Bool) (hl : us.length ≤ 1000000000) (w : World) (hr : RdV w A (us.map .bool)) (Bs : Nat) (hBs : w.cell? ⟨Bs, 1, none⟩ = some (.slice A us.length c)) :
    Calls Try.prog 84 #[.slice none 0 0, .func (.func 85) #[] #[.pointer (some ⟨Bs, 0, none⟩)]] w fun e W' => ∃ v, e = .returned v ∧ W'.ownsRow w.heap.size 3 1 v (frees us us.length).length (ivs (frees us us.length)) ∧ FB w W' := by
  refine (callsIn_wide (n := 10)).1 ?_
  obtain ⟨i0, hi, hz0, hz1, hz2⟩ := info_parts info_i
  refine callsIn_of_wp_marks Try.func84 rfl trivial ?_ rfl
  simp only [Try.ntmps84, List.size_toArray, List.length_cons, List.length_nil, Nat.reduceAdd, Nat.reduceSub, Array.replicate_succ, Array.replicate_zero, List.push_toArray, List.append_toArray, List.nil_append, List.cons_append]
  have bO := Boxed.new w 51 (.slice none 0 0)
  have hB0 : Below w.heap.size w (w.alloc (.cells #[.slice none 0 0] 51)) := (Below.refl _ w).alloc (Nat.le_refl _) _
  have HST := Lib.hid (free_stops (10 - 1) (by omega) P A c us hl w hr (w.alloc (.cells #[.slice none 0 0] 51)) Bs ((FB.refl w).alloc _) (((FB.refl w).alloc _).cell hBs))
  have HFL := Lib.hid (frees_le us us.length)
  clear hr hBs
  gi_wp2
  refine wpIn_rangeFunc_ownG rfl (by omega) (gf := 85) (lb := #[.pointer (some ⟨Bs, 0, none⟩)]) rfl trivial (enters_of Try.func85 (by kernel_rfl) rfl)
    HST.out belowK_t (belowK_b (by simp)) (Below.refl _ _) (fun _ => rfl)
    (fun pre W => (∃ v, Boxed W w.heap.size 51 v ∧ W.ownsRow w.heap.size 3 1 v pre.length (ivs (pre.map (·.1))) ∧ True) ∧ Below w.heap.size w W)
    (fun _ _ _ => False)
    (OwnFrom.and (Own.from (holdsRow_own w.heap.size w.heap.size 51 3 1 (fun pre : List (Fin us.length) => pre.length) (fun pre => ivs (pre.map (·.1))) (fun pre v => True)) _) (ownFrom_below (Nat.le_refl _) (by simp)))
    (fun _ _ _ _ _ hs _ _ => hs)
    ⟨⟨_, bO, World.ownsRow_nil _ _ _ _, trivial⟩, hB0⟩
    (fun x => { tmps := #[.slice none 0 0, .func (.func 85) #[] #[.pointer (some ⟨Bs, 0, none⟩)], .pointer (some ⟨w.heap.size, 0, none⟩), undef, .slice none 0 0, .int .i64 (x.1 : Int), .func (.func 85) #[] #[.pointer (some ⟨Bs, 0, none⟩)], .int .i64 (x.1 : Int), undef, undef, undef, undef, undef], defers := [] }) ?assign ?body ?done ?stop
  case assign =>
    intro l x W K hK
    gi_wp2
    exact hK
  case body =>
    rintro l pre x W ⟨⟨v, hv, hrow, -⟩, hB⟩ hlt
    have hc := hv.cell
    have hpl : pre.length < 1000000000 := by have := HFL.out; omega
    have hpl2 := ivs_len (pre.map (·.1))
    gi_wp2_with (gi_at_builtin; refine wpListIn_append_own _ rfl _ _ 51 rfl w.heap.size 3 i0 (.int .i64 0) 1 8 Try.underlying51 hi hz0 hz1 hz2 rfl (by decide) _ _ _ rfl (hrow.alloc _) ⟨W.heap.size, 0, none⟩ 1 1 [.int .i64 (x.1 : Int)] rfl rfl (cell_one_new _ _ _) (by simp [Value.oneCell']) (by simp [maxLen]; omega) (by omega) (by have := hB.size; simp; omega) ?_; intro v' w1 hown' hgrow _; obtain ⟨g', cap', rfl⟩ := ownsRow_succ hown'; obtain ⟨hv1, hv2, hr2, hk2, hb2⟩ := hv.appended (by decide) hrow hB.size (Nat.le_refl _) hown' hgrow; have hc1 := hv1.cell; have hf1 := hv1.frozen)
    exact ⟨hk2.from _, hb2, ⟨_, hv2, by rw [List.map_append, List.map_cons, List.map_nil, ivs_snoc]; simpa using hr2, trivial⟩, hB.trans hb2⟩
  case done =>
    rintro D ys W hD rfl ⟨⟨v, hv, hrow, -⟩, hB⟩ hK
    have hc := hv.cell
    gi_wp2
    refine ⟨by simp, .inl ⟨_, _, rfl, run_takeDeferred hK, ?_⟩⟩
    exact ⟨_, results_tmp rfl _ _ _, v, rfl, by rw [freesF_len, freesF_val] at hrow; exact ownsRow_putObj hrow _ hK rfl, hB.trans (belowK_b (w := w) (Nat.le_refl _) W D _ _ (by simp at hD; omega) hK rfl rfl)⟩
  case stop =>
    rintro D c pre W _ _ h _
    exact h.elim
end Go.Proofs.Ytjhgnohofcahbaa
