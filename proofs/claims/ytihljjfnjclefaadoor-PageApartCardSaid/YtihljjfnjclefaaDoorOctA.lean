/- The walks through slices.Clone, Grow, Concat and what lays down numbers and words. -/
import Derived.Test.YtihljjfnjclefaaDoorOctP
import Derived.Test.YtihljjfnjclefaaDoorKit
import Derived.Lib.SliceRun
import Derived.Lib.AppendZeros
set_option linter.unusedVariables false
set_option linter.unusedSimpArgs false
namespace Go.Proofs.YtihljjfnjclefaaDoor
open Go.ChangeShapes Go.WideShapes Go.ChangeAt Go.RowKit

set_option maxRecDepth 100000 in
set_option maxHeartbeats 400000 in
theorem sl_Clone (xs : List Byte) (A : Option Addr) (n c : Nat) (w : World) (hn : n = xs.length) (hm : xs.length ≤ 140737488355328) (hr : Rd w A xs) :
    Calls Tryd.prog 56 #[.slice A n c] w fun e w' => ∃ A' c', e = .returned (.slice A' n c') ∧ Own w' w.heap.size (.slice A' n c') xs ∧ Below w.heap.size w w' := by
  subst hn
  have HR := Lib.hid hr
  clear hr
  cases A with
  | none =>
    have hx : xs = [] := by
      cases xs with
      | nil => rfl
      | cons y ys => obtain ⟨b, o, e, _⟩ := HR.out 0 (by simp [vbs]); cases e
    subst hx
    simp only [List.length_nil]
    have hq : ∀ W, (binOp .eql 23 (.slice none 0 c) (.slice none 0 0)).run Tryd.prog W = .ok (.bool true) W := fun W => Lib.run_eql_slice_nil W _ _ none _ c 0 0 Tryd.underlying23
    go_enter Tryd.func56, Tryd.ntmps56
    go_wp2
    go_ret
    exact ⟨none, 0, rfl, Own.nil _ _, Below.refl _ _⟩
  | some A =>
    have hq : ∀ W, (binOp .eql 23 (.slice (some A) xs.length c) (.slice none 0 0)).run Tryd.prog W = .ok (.bool false) W := fun W => Lib.run_eql_slice_nil W _ _ (some A) _ c 0 0 Tryd.underlying23
    go_enter Tryd.func56, Tryd.ntmps56
    go_wp2_with (at_builtin; refine wpList_append_bytes rfl _ _ rfl w.heap.size _ [] (OwnV.lit _ w [] (by simp)) rfl (some A) c xs rfl (HR.out.alloc _) (by simpa using hm) (by simp) ?_; intro v' w1 ho hg _; have HO := Lib.hid ho; have HG := Lib.hid hg; clear ho hg)
    go_ret
    have ho := HO.out
    rw [List.nil_append] at ho
    obtain ⟨A', c', e1, _⟩ := ho.form
    rw [e1] at ho
    exact ⟨A', c', by simp [e1], ho, (((Below.refl _ w).alloc (Nat.le_refl _) _).grown HG.out (by simp) (by simp [Value.ownBlock]))⟩

set_option maxRecDepth 100000 in
set_option maxHeartbeats 400000 in
/-- Grow of nil. -/
theorem sl_Grow (n : Nat) (w : World) (hn : n ≤ 140737488355328) :
    Calls Tryd.prog 74 #[.slice none 0 0, .int .i64 (n : Int)] w fun e w' => ∃ v, e = .returned v ∧ Own w' w.heap.size v [] ∧ Below w.heap.size w w' := by
  obtain ⟨i, hi, hz, hsize, hby⟩ := info_parts info_u8
  by_cases h0 : 0 < n
  · have hcut := cut_hi none 0 [] 0 (Nat.le_refl _) (Nat.le_refl _)
    have hrun := fun ty => Lib.run_append_nil_zeros (P := Tryd.prog) w 23 3 ty 5 i _ .i64 .i64 Tryd.underlying23 Tryd.underlying3 hi hz n h0 (by omega) (by omega) (by rw [hby]; omega)
    have HRUN := Lib.hid hrun
    clear hrun
    have hcap : grownCap w n 0 5 ≤ maxLen := grownCap_le_maxLen w n 0 _ (by rw [maxLen_eq]; omega)
    have HCAP := Lib.hid hcap
    go_enter Tryd.func74, Tryd.ntmps74
    go_wp2_with (at_builtin; refine Lib.wpList_append_run _ rfl _ _ _ _ rfl _ _ rfl rfl _ _ (HRUN.out _) ?_)
    go_ret
    refine ⟨_, rfl, ?_, ?_⟩
    · have h := World.ownsRow_made (base := w.heap.size) (e := 5) (size := 1) w.drew (Builtin.zeroCells #[Value.int IntKind.u8 0] n ++ Builtin.zeroCells #[Value.int IntKind.u8 0] (grownCap w n 0 5 - n)) (grownCap w n 0 5) (Nat.le_refl _) HCAP.out (by simp [size_zeroCells]; have := grownCap_ge w n 0 5; omega)
      exact h
    · exact ((FB.refl w).alloc _).drew
  · obtain rfl : n = 0 := by omega
    go_enter Tryd.func74, Tryd.ntmps74
    go_wp2
    go_ret
    exact ⟨_, rfl, Own.nil _ _, Below.refl _ _⟩

theorem lens_le (ls : List (List Byte)) (k : Nat) : (ls.take k).flatten.length ≤ ls.flatten.length := by
  conv => rhs; rw [← List.take_append_drop k ls]
  rw [List.flatten_append, List.length_append]; omega
theorem lens_succ (ls : List (List Byte)) (k : Nat) (h : k < ls.length) : (ls.take (k + 1)).flatten = (ls.take k).flatten ++ ls[k] := by
  rw [List.take_succ_eq_append_getElem h, List.flatten_append]; simp only [List.flatten_cons, List.flatten_nil, List.append_nil]

set_option maxRecDepth 100000 in
set_option maxHeartbeats 1000000 in
theorem sl_Concat (ls : List (List Byte)) (A : Option Addr) (n c : Nat) (w : World) (hn : n = ls.length) (hc : ls.length ≤ c) (hm : c ≤ maxLen) (hr : RdL w A ls) (hl : ls.flatten.length ≤ 140737488355328) :
    Calls Tryd.prog 61 #[.slice A n c] w fun e w' => ∃ v, e = .returned v ∧ Own w' w.heap.size v ls.flatten ∧ Below w.heap.size w w' := by
  subst hn
  have HR := Lib.hid hr
  clear hr
  unfold maxLen at hm
  go_enter Tryd.func61, Tryd.ntmps61
  go_wp2
  go_loop [3, 5, 11] (fun s _ i => ∃ k : Nat, k ≤ ls.length ∧ i = .int .i64 k ∧ s = .int .i64 ((ls.take k).flatten.length : Nat)) (fun _ _ i => ls.length - (intOf i).toNat)
  case atStart => exact ⟨0, by omega, rfl, by simp⟩
  case round =>
    obtain ⟨k, hk, rfl, rfl⟩ := hrel
    by_cases hlt : k < ls.length
    · obtain ⟨b, o, A', c', rfl, hcell, hc', hm', hrd⟩ := HR.out k hlt
      have HS := Lib.hid (lens_succ ls k hlt)
      have h1 := lens_le ls (k + 1)
      have h2 : (ls.take (k + 1)).flatten.length = (ls.take k).flatten.length + ls[k].length := by rw [HS.out]; simp
      have H2 := Lib.hid h2
      have h3 : (ls.take k).flatten.length + ls[k].length ≤ 140737488355328 := by omega
      clear hrd h1 h2
      generalize (ls.take k).flatten.length = m at *
      generalize ls[k].length = q at *
      go_wp2
      go_round
      case rel => exact ⟨k + 1, by omega, by go_num, by rw [H2.out]; go_num⟩
      case measure => simp [intOf]; omega
    · obtain rfl : k = ls.length := by omega
      have hfl : (ls.take ls.length).flatten.length = ls.flatten.length := by simp
      rw [hfl]
      have HL := Lib.hid hl
      obtain ⟨T, hT⟩ : ∃ T, T = ls.flatten.length := ⟨_, rfl⟩
      have HT := Lib.hid hT
      rw [← hT]
      have hT2 : T ≤ 140737488355328 := by rw [hT]; exact hl
      clear hT hl
      go_wp2_with fail
      refine (sl_Grow T _ hT2).mono ?_
      rintro e w1 ⟨v0, rfl, ho, hb⟩
      have HO0 := Lib.hid ho
      have HB0 := Lib.hid hb
      clear ho hb hfl
      have hl := HL.out
      go_wp2
      go_loopw [6, 8, 27] (fun v _ i wr => ∃ k : Nat, k ≤ ls.length ∧ i = .int .i64 k ∧ Hid (Own wr w.heap.size v (ls.take k).flatten) ∧ Hid (FB w wr)) (fun _ _ i _ => ls.length - (intOf i).toNat)
      case atStart => exact ⟨0, by omega, rfl, HO0.out, HB0.out⟩
      case round =>
        obtain ⟨k, hk, rfl, HO, HF⟩ := hrel
        by_cases hlt : k < ls.length
        · obtain ⟨b, o, A', c', rfl, hcell, hc', hm', hrd⟩ := (HR.out.below HF.out) k hlt
          have HRD := Lib.hid hrd
          have HS := Lib.hid (lens_succ ls k hlt)
          have h1 := lens_le ls (k + 1)
          have h3 : (ls.take k).flatten.length + ls[k].length ≤ 140737488355328 := by rw [HS.out, List.length_append] at h1; omega
          clear hrd h1
          generalize ls[k] = x at *
          generalize (ls.take k).flatten = y at *
          go_wp2_with (at_builtin; refine wpList_append_bytes rfl _ _ rfl w.heap.size _ y HO.out rfl A' c' x rfl HRD.out h3 HF.out.le ?_; intro v' w2 ho hg _; have HO2 := Lib.hid ho; have HG := Lib.hid hg; clear ho hg)
          go_roundw
          case rel => exact ⟨k + 1, by omega, by go_num, by rw [HS.out]; exact HO2.out, HF.out.grown HG.out (Own.bnd HO.out)⟩
          case measure => simp [intOf]; omega
        · obtain rfl : k = ls.length := by omega
          go_wp2
          go_ret
          have ho := HO.out
          rw [List.take_length] at ho
          exact ⟨_, rfl, ho, HF.out⟩
end Go.Proofs.YtihljjfnjclefaaDoor
