/- the reference of layer 5: Same, Kind; tallymankit.Page. -/
import Derived.Test.YtihljjfnjclefaaDoorRgC
import Derived.Test.YtihljjfnjclefaaDoorPgE
set_option linter.unusedVariables false
set_option linter.unusedSimpArgs false
namespace Go.Proofs.YtihljjfnjclefaaDoor
open Go.ChangeShapes Go.WideShapes Go.ChangeAt Go.RowKit
attribute [local go_sem] nb_nonneg nb_lt8 nb_lt64
set_option maxRecDepth 100000

theorem dropWhile_split (r : List Byte) : ∃ k, r = List.replicate k 0#8 ++ r.dropWhile (· == 0#8) ∧ ∀ a t, r.dropWhile (· == 0#8) = a :: t → a ≠ 0#8 := by
  induction r with
  | nil => exact ⟨0, rfl, by simp⟩
  | cons b r ih =>
    obtain ⟨k, h1, h2⟩ := ih
    by_cases hb : b = 0#8
    · subst hb
      refine ⟨k + 1, ?_, fun a t h => h2 a t (by rw [List.dropWhile_cons, if_pos (by simp)] at h; exact h)⟩
      rw [List.dropWhile_cons, if_pos (by simp), List.replicate_succ, List.cons_append, ← h1]
    · refine ⟨0, ?_, fun a t h => ?_⟩
      · rw [List.dropWhile_cons, if_neg (by simpa using hb)]; rfl
      · rw [List.dropWhile_cons, if_neg (by simpa using hb)] at h
        cases h; exact hb
theorem trimz_split (x : List Byte) : ∃ k, x = trimz x ++ List.replicate k 0#8 ∧ (trimz x = [] ∨ ∃ l a, trimz x = l ++ [a] ∧ a ≠ 0#8) := by
  obtain ⟨k, h1, h2⟩ := dropWhile_split x.reverse
  refine ⟨k, ?_, ?_⟩
  · have h := congrArg List.reverse h1
    rw [List.reverse_reverse, List.reverse_append, List.reverse_replicate] at h
    exact h
  · unfold trimz
    cases hd : List.dropWhile (· == 0#8) x.reverse with
    | nil => exact .inl rfl
    | cons a t => exact .inr ⟨t.reverse, a, by simp, h2 a t hd⟩
theorem getD_zeros (l : List Byte) (k i : Nat) : (l ++ List.replicate k 0#8).getD i 0#8 = l.getD i 0#8 := by
  simp only [List.getD_eq_getElem?_getD]
  by_cases h : i < l.length
  · rw [List.getElem?_append_left h]
  · rw [List.getElem?_append_right (by omega), List.getElem?_eq_none (l := l) (by omega), List.getElem?_replicate]
    split <;> rfl
theorem trimz_getD (x : List Byte) (i : Nat) : (trimz x).getD i 0#8 = x.getD i 0#8 := by
  obtain ⟨k, h, -⟩ := trimz_split x
  rw [show x.getD i 0#8 = (trimz x ++ List.replicate k 0#8).getD i 0#8 from by rw [← h], getD_zeros]
theorem trimz_lt {x y : List Byte} (h : ∀ i, x.getD i 0#8 = y.getD i 0#8) : (trimz y).length ≤ (trimz x).length := by
  obtain ⟨k, -, hk | ⟨l, a, hk, ha⟩⟩ := trimz_split y
  · rw [hk]; exact Nat.zero_le _
  · refine Nat.le_of_not_lt fun hlt => ha ?_
    have hq : (trimz y).length = l.length + 1 := by rw [hk]; simp
    have e := h l.length
    rw [← trimz_getD y, ← trimz_getD x, hk] at e
    rw [List.getD_eq_getElem?_getD, List.getElem?_eq_none (by omega), List.getD_eq_getElem?_getD, List.getElem?_append_right (Nat.le_refl _)] at e
    simpa using e.symm
theorem trimz_iff (x y : List Byte) : trimz x = trimz y ↔ ∀ i, x.getD i 0#8 = y.getD i 0#8 := by
  constructor
  · intro h i; rw [← trimz_getD x, ← trimz_getD y, h]
  · intro h
    have hl : (trimz x).length = (trimz y).length := Nat.le_antisymm (trimz_lt fun i => (h i).symm) (trimz_lt h)
    apply List.ext_getElem hl
    intro i h1 h2
    have e := h i
    rw [← trimz_getD x, ← trimz_getD y, List.getD_eq_getElem?_getD, List.getD_eq_getElem?_getD, List.getElem?_eq_getElem h1, List.getElem?_eq_getElem h2] at e
    exact e
theorem getD_lt {x : List Byte} {k : Nat} (h : k < x.length) : x.getD k 0#8 = x[k] := by
  rw [List.getD_eq_getElem?_getD, List.getElem?_eq_getElem h]; rfl
theorem getD_ge {x : List Byte} {k : Nat} (h : ¬ k < x.length) : x.getD k 0#8 = 0#8 := by
  rw [List.getD_eq_getElem?_getD, List.getElem?_eq_none (by omega)]; rfl
/-- Equal up to here. -/
def eqTo (x y : List Byte) (k : Nat) : Prop := ∀ j, j < k → x.getD j 0#8 = y.getD j 0#8
theorem eqTo.step {x y : List Byte} {k : Nat} (h : eqTo x y k) (e : x.getD k 0#8 = y.getD k 0#8) : eqTo x y (k + 1) := fun j hj => by
  by_cases hjk : j = k
  · rw [hjk]; exact e
  · exact h j (by omega)
theorem pgSame_off {K K' : Int} {n n' : BitVec 32} {x y : List Byte} {k : Nat} (h : x.getD k 0#8 ≠ y.getD k 0#8) : pgSame K n x K' n' y = false := by
  unfold pgSame
  rw [decide_eq_false (p := trimz x = trimz y) (fun e => h ((trimz_iff x y).1 e k)), Bool.and_false]
theorem eqTo.all {x y : List Byte} {k : Nat} (h : eqTo x y k) (h1 : ¬ k < x.length) (h2 : ¬ k < y.length) : trimz x = trimz y := (trimz_iff x y).2 fun i => by
  by_cases hi : i < k
  · exact h i hi
  · rw [getD_ge (by omega), getD_ge (by omega)]
set_option maxHeartbeats 1000000 in
theorem r5_Kind (b : List Byte) (A : Option Addr) (c : Nat) (w : World) (hl : b.length ≤ 1000000000) (hc : b.length ≤ c) (hm : c ≤ maxLen) (hr : Rd w A b) :
    Calls Tryd.prog 19 #[.slice A b.length c] w fun e w' => e = .returned (.int .i64 (pgR b).1.1) ∧ FB w w' := by
  have HC := Lib.hid (r5_Read b A c w hl hc hm hr)
  generalize pgR b = r at *
  obtain ⟨⟨K, n, x⟩, er⟩ := r
  clear hl hc hm hr
  go_enter Tryd.func19, Tryd.ntmps19
  go_wp2_with fail
  refine HC.out.mono ?_
  rintro e w1 ⟨A1, c1, rfl, hr, hc, hm, hb⟩
  have HF := Lib.hid (hb.alloc (.cells #[.int .i64 K, .int .u32 (nb n), .slice A1 x.length c1] 25))
  clear hr hc hm hb
  go_wp2
  go_ret
  exact ⟨rfl, HF.out⟩
def pgEq (K : Int) (n : BitVec 32) (x : List Byte) (K' : Int) (n' : BitVec 32) (y : List Byte) : Bool := decide (K = K') && decide (n = n') && decide (x = y)
theorem pgEq_self (K : Int) (n : BitVec 32) (x : List Byte) : pgEq K n x K n x = true := by unfold pgEq; simp
set_option maxHeartbeats 2000000 in
theorem kit_Page (K K' : Int) (n n' : BitVec 32) (x y : List Byte) (A B : Option Addr) (ca cb : Nat) (w : World) (hra : Rd w A x) (hrb : Rd w B y) :
    Calls Tryd.prog 20 #[.agg #[.int .i64 K, .int .u32 (nb n), .slice A x.length ca], .agg #[.int .i64 K', .int .u32 (nb n'), .slice B y.length cb]] w fun e w' => e = .returned (.bool (pgEq K n x K' n' y)) ∧ FB w w' := by
  obtain ⟨hf, hb1, hb2, -⟩ := pbox22 w (.int .i64 K) (.int .u32 (nb n)) (.slice A x.length ca) (.int .i64 K') (.int .u32 (nb n')) (.slice B y.length cb)
  obtain ⟨R, hR⟩ : ∃ R, R = pgEq K n x K' n' y := ⟨_, rfl⟩
  rw [← hR]
  unfold pgEq at hR
  have hs1 := run_string ca (FB.rd hf hra)
  have hs2 := run_string cb (FB.rd hf hrb)
  obtain ⟨q0, q1, q2⟩ := prow3 hb1
  obtain ⟨r0, r1, r2⟩ := prow3 hb2
  have HF0 := Lib.hid hf
  clear hf hb1 hb2 hra hrb
  by_cases hk : K = K'
  · have hke : (K == K') = true := by simpa using hk
    by_cases hn : n = n'
    · have hne : (nb n == nb n') = true := by rw [nb_beq]; simpa using hn
      by_cases hxy : x = y
      · have hse : ((sb x).toList == (sb y).toList) = true := by rw [sb_beq]; simpa using hxy
        have HRR := Lib.hid (show R = true from by rw [hR, decide_eq_true hk, decide_eq_true hn, decide_eq_true hxy]; rfl)
        clear hR hk hn hxy
        go_enter Tryd.func20, Tryd.ntmps20
        go_wp2
        go_ret
        exact ⟨by rw [HRR.out]; rfl, HF0.out⟩
      · have hse : ((sb x).toList == (sb y).toList) = false := by rw [sb_beq]; simpa using hxy
        have HRR := Lib.hid (show R = false from by rw [hR, decide_eq_false hxy]; simp)
        clear hR hk hn hxy
        go_enter Tryd.func20, Tryd.ntmps20
        go_wp2
        go_ret
        exact ⟨by rw [HRR.out]; rfl, HF0.out⟩
    · have hne : (nb n == nb n') = false := by rw [nb_beq]; simpa using hn
      have HRR := Lib.hid (show R = false from by rw [hR, decide_eq_false hn]; simp)
      clear hR hk hn
      go_enter Tryd.func20, Tryd.ntmps20
      go_wp2
      go_ret
      exact ⟨by rw [HRR.out]; rfl, HF0.out⟩
  · have hke : (K == K') = false := by simpa using hk
    have HRR := Lib.hid (show R = false from by rw [hR, decide_eq_false hk]; simp)
    clear hR hk
    go_enter Tryd.func20, Tryd.ntmps20
    go_wp2
    go_ret
    exact ⟨by rw [HRR.out]; rfl, HF0.out⟩
set_option maxHeartbeats 4000000 in
theorem r5_Same (K K' : Int) (n n' : BitVec 32) (x y : List Byte) (A B : Option Addr) (ca cb : Nat) (w : World) (hx : x.length ≤ 1000000000) (hy : y.length ≤ 1000000000) (hca : x.length ≤ ca) (hcb : y.length ≤ cb) (hma : ca ≤ maxLen) (hmb : cb ≤ maxLen) (hra : Rd w A x) (hrb : Rd w B y) :
    Calls Tryd.prog 17 #[.agg #[.int .i64 K, .int .u32 (nb n), .slice A x.length ca], .agg #[.int .i64 K', .int .u32 (nb n'), .slice B y.length cb]] w fun e w' => e = .returned (.bool (pgSame K n x K' n' y)) ∧ FB w w' := by
  obtain ⟨hf, hb1, hb2, -⟩ := pbox22 w (.int .i64 K) (.int .u32 (nb n)) (.slice A x.length ca) (.int .i64 K') (.int .u32 (nb n')) (.slice B y.length cb)
  obtain ⟨R, hR⟩ : ∃ R, R = pgSame K n x K' n' y := ⟨_, rfl⟩
  rw [← hR]
  obtain ⟨q0, q1, q2⟩ := prow3 hb1
  obtain ⟨r0, r1, r2⟩ := prow3 hb2
  have HF0 := Lib.hid hf
  have HRX := Lib.hid (hf.rd hra)
  have HRY := Lib.hid (hf.rd hrb)
  have HX := Lib.hid (And.intro hx hca)
  have HY := Lib.hid (And.intro hy hcb)
  have HRR := Lib.hid hR
  clear hf hb1 hb2 hra hrb hx hy hca hcb hma hmb hR
  go_enter Tryd.func17, Tryd.ntmps17
  go_wp2_with fail
  generalize (w.alloc _).alloc _ = W1 at *
  go_loop [5] (fun i => ∃ k : Nat, i = .int .i64 k ∧ Hid (k ≤ x.length ∨ k ≤ y.length) ∧ Hid (eqTo x y k)) (fun i => max x.length y.length - (intOf i).toNat)
  case atStart => exact ⟨0, rfl, Lib.hid (.inl (Nat.zero_le _)), Lib.hid (fun j hj => by omega)⟩
  case round =>
    obtain ⟨k, rfl, HK, HE⟩ := hrel
    have hwk : IntKind.i64.wrap ((k : Int) + 1) = (k : Int) + 1 := by rw [IntKind.wrap_i64]; have := HX.out; have := HY.out; have := HK.out; omega
    by_cases h1 : k < x.length
    · have hz1 : (k : Int) < (x.length : Int) := by omega
      have hg1 := getD_lt h1
      obtain ⟨b, o, rfl, -, hcs⟩ := HRX.out.form (by omega)
      have hcx := hcs k h1
      rw [← hg1] at hcx
      unfold vb at hcx
      have hkc : (k : Int) < (ca : Int) := by have := HX.out; omega
      clear hcs hg1
      by_cases h2 : k < y.length
      · have hz2 : (k : Int) < (y.length : Int) := by omega
        have hg2 := getD_lt h2
        obtain ⟨b', o', rfl, -, hcs⟩ := HRY.out.form (by omega)
        have hcy := hcs k h2
        rw [← hg2] at hcy
        unfold vb at hcy
        clear hcs hg2
        by_cases he : x.getD k 0#8 = y.getD k 0#8
        · have hbe : (nb (x.getD k 0#8) != nb (y.getD k 0#8)) = false := by rw [he]; simp
          have HE2 := Lib.hid (HE.out.step he)
          have HK2 := Lib.hid (show k + 1 ≤ x.length ∨ k + 1 ≤ y.length from .inl h1)
          have HMM := Lib.hid (show max x.length y.length - (k + 1) < max x.length y.length - k from by omega)
          clear he h1 h2
          generalize x.getD k 0#8 = xk at *
          generalize y.getD k 0#8 = yk at *
          go_wp2
          go_round
          case rel => exact ⟨k + 1, by simp, HK2, HE2⟩
          case measure => (show max x.length y.length - ((k : Int) + 1).toNat < max x.length y.length - ((k : Int)).toNat; have := HMM.out; omega)
        · have hbe : (nb (x.getD k 0#8) != nb (y.getD k 0#8)) = true := by rw [bne_iff_ne]; intro e; exact he (by have := (nb_beq (x.getD k 0#8) (y.getD k 0#8)); rw [e] at this; simpa using this)
          have HRQ := Lib.hid (HRR.out.trans (pgSame_off he))
          clear he h1 h2
          generalize x.getD k 0#8 = xk at *
          generalize y.getD k 0#8 = yk at *
          go_wp2
          go_ret
          exact ⟨by rw [HRQ.out]; rfl, HF0.out⟩
      · have hz2 : ¬ (k : Int) < (y.length : Int) := by omega
        have hg2 := getD_ge h2
        by_cases he : x.getD k 0#8 = 0#8
        · have hbe : (nb (x.getD k 0#8) != 0) = false := by rw [he]; rfl
          have HE2 := Lib.hid (HE.out.step (he.trans hg2.symm))
          have HK2 := Lib.hid (show k + 1 ≤ x.length ∨ k + 1 ≤ y.length from .inl h1)
          have HMM := Lib.hid (show max x.length y.length - (k + 1) < max x.length y.length - k from by omega)
          clear he h1 h2 hg2
          generalize x.getD k 0#8 = xk at *
          go_wp2
          go_round
          case rel => exact ⟨k + 1, by simp, HK2, HE2⟩
          case measure => (show max x.length y.length - ((k : Int) + 1).toNat < max x.length y.length - ((k : Int)).toNat; have := HMM.out; omega)
        · have hbe : (nb (x.getD k 0#8) != 0) = true := by
            have := nb_beq0 (x.getD k 0#8)
            rw [bne, this]; simpa using he
          have HRQ := Lib.hid (HRR.out.trans (pgSame_off (k := k) (by rw [hg2]; exact he)))
          clear he h1 h2 hg2
          generalize x.getD k 0#8 = xk at *
          go_wp2
          go_ret
          exact ⟨by rw [HRQ.out]; rfl, HF0.out⟩
    · have hz1 : ¬ (k : Int) < (x.length : Int) := by omega
      have hg1 := getD_ge h1
      by_cases h2 : k < y.length
      · have hz2 : (k : Int) < (y.length : Int) := by omega
        have hg2 := getD_lt h2
        obtain ⟨b', o', rfl, -, hcs⟩ := HRY.out.form (by omega)
        have hcy := hcs k h2
        rw [← hg2] at hcy
        unfold vb at hcy
        clear hcs hg2
        by_cases he : y.getD k 0#8 = 0#8
        · have hbe : (0 != nb (y.getD k 0#8)) = false := by rw [he]; rfl
          have HE2 := Lib.hid (HE.out.step (hg1.trans he.symm))
          have HK2 := Lib.hid (show k + 1 ≤ x.length ∨ k + 1 ≤ y.length from .inr h2)
          have HMM := Lib.hid (show max x.length y.length - (k + 1) < max x.length y.length - k from by omega)
          clear he h1 h2 hg1
          generalize y.getD k 0#8 = yk at *
          go_wp2
          go_round
          case rel => exact ⟨k + 1, by simp, HK2, HE2⟩
          case measure => (show max x.length y.length - ((k : Int) + 1).toNat < max x.length y.length - ((k : Int)).toNat; have := HMM.out; omega)
        · have hbe : (0 != nb (y.getD k 0#8)) = true := by
            have := nb_beq0 (y.getD k 0#8)
            rw [bne, show ((0 : Int) == nb (y.getD k 0#8)) = (nb (y.getD k 0#8) == 0) from by rw [Bool.eq_iff_iff]; simp only [beq_iff_eq]; exact eq_comm, this]; simpa using he
          have HRQ := Lib.hid (HRR.out.trans (pgSame_off (k := k) (by rw [hg1]; exact fun e => he e.symm)))
          clear he h1 h2 hg1
          generalize y.getD k 0#8 = yk at *
          go_wp2
          go_ret
          exact ⟨by rw [HRQ.out]; rfl, HF0.out⟩
      · have hz2 : ¬ (k : Int) < (y.length : Int) := by omega
        have hall := HE.out.all h1 h2
        by_cases hk : K = K'
        · have hke : (K == K') = true := by simpa using hk
          by_cases hn : n = n'
          · have hne : (nb n == nb n') = true := by rw [nb_beq]; simpa using hn
            have HRQ := Lib.hid (show R = true from by rw [HRR.out]; unfold pgSame; rw [decide_eq_true hk, decide_eq_true hn, decide_eq_true hall]; rfl)
            clear hall hk hn hg1 h1 h2
            go_wp2
            go_ret
            exact ⟨by rw [HRQ.out]; rfl, HF0.out⟩
          · have hne : (nb n == nb n') = false := by rw [nb_beq]; simpa using hn
            have HRQ := Lib.hid (show R = false from by rw [HRR.out]; unfold pgSame; rw [decide_eq_false hn]; simp)
            clear hall hk hn hg1 h1 h2
            go_wp2
            go_ret
            exact ⟨by rw [HRQ.out]; rfl, HF0.out⟩
        · have hke : (K == K') = false := by simpa using hk
          have HRQ := Lib.hid (show R = false from by rw [HRR.out]; unfold pgSame; rw [decide_eq_false hk]; simp)
          clear hall hk hg1 h1 h2
          go_wp2
          go_ret
          exact ⟨by rw [HRQ.out]; rfl, HF0.out⟩
end Go.Proofs.YtihljjfnjclefaaDoor
