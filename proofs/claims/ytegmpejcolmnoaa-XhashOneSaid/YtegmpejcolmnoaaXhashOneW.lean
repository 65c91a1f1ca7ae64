/- The walk of XhashOne. -/
import Derived.Test.YtegmpejcolmnoaaXhW
import Derived.Test.YtegmpejcolmnoaaXhL
set_option linter.unusedVariables false
set_option linter.unusedSimpArgs false
namespace Go.Proofs.Ytegmpejcolmnoaa
open Go.ChangeShapes Go.WideShapes Go.ChangeAt Go.RowKit
attribute [local go_sem] nb_beq nb_beq0 nb_nonneg nb_lt64 bits_or64 BitVec.setWidth_eq

theorem xclip_nat (k : Nat) (h : k ≤ 64) : xclip (k : Int) = k := by unfold xclip; omega
theorem low_nat (h : BitVec 64) (k : Nat) (z : Int) (hz : z = k) (hk : k ≤ 64) (w : World) : Calls Try.prog 24 #[.int .u64 (nb h), .int .i64 z] w fun e w' => e = .returned (.int .u64 (nb (xlow h k))) ∧ w = w' := by
  have := xh_Low h (k : Int) w
  rw [xclip_nat k hk] at this
  rw [hz]; exact this
theorem high_nat (h : BitVec 64) (k : Nat) (z : Int) (hz : z = k) (hk : k ≤ 64) (w : World) : Calls Try.prog 26 #[.int .u64 (nb h), .int .i64 z] w fun e w' => e = .returned (.int .u64 (nb (xhigh h k))) ∧ w = w' := by
  have := xh_High h (k : Int) w
  rw [xclip_nat k hk] at this
  rw [hz]; exact this

set_option maxRecDepth 100000 in
set_option maxHeartbeats 1000000 in
theorem xhashOne_walk (a b c : BitVec 64) (n : Int) (w : World) (_hw : -9223372036854775808 ≤ n ∧ n ≤ 9223372036854775807) : Calls Try.prog 4 #[.int .u64 (nb a), .int .u64 (nb b), .int .u64 (nb c), .int .i64 n] w fun e w' => e = .returned (.bool true) ∧ Below w.heap.size w w' := by
  have h1 := beq_of_iff (xaval_inj (x := a) (y := b))
  have h2 := beq_of_iff (xround_injl (a := a) (b := b) (x := c))
  have h3 := beq_of_iff (xround_inj (a := c) (x := a) (y := b))
  have h4 := beq_of_iff (xmerge_inj (a := c) (x := a) (y := b))
  obtain ⟨k, hk, hk64⟩ : ∃ k : Nat, pick n 65 = (k : Int) ∧ k ≤ 64 := by
    have := pick_range n 65 (by omega)
    exact ⟨(pick n 65).toNat, by omega, by omega⟩
  have hpick : ∀ W, Calls Try.prog 28 #[.int .i64 n, .int .i64 65] W fun e w' => e = .returned (.int .i64 (k : Int)) ∧ W = w' := fun W => by
    rw [← hk]; exact kit_Pick n 65 W (by omega) (by omega)
  have HPICK := Lib.hid hpick
  clear hpick hk
  have hsub : ((64 - k : Nat) : Int) = 64 - (k : Int) := by omega
  have HSUB := Lib.hid hsub
  have hsn := sub64 k hk64
  clear hsub
  cases hab : (a == b)
  all_goals
    rw [hab] at h1 h2 h3 h4
    go_enter Try.func4, Try.ntmps4
    go_wp2_with fail
    refine (xh_lives _).mono ?_
    rintro e w1 ⟨rfl, hb⟩
    have hB := (FB.refl w).call hb
    clear hb
    go_wp2_with fail
    refine (xh_Avalanche _ _).mono ?_
    rintro e w2 ⟨rfl, rfl⟩
    go_wp2_with fail
    refine (xh_Avalanche _ _).mono ?_
    rintro e w2 ⟨rfl, rfl⟩
    go_wp2_with fail
    refine (xh_Round _ _ _).mono ?_
    rintro e w2 ⟨rfl, rfl⟩
    go_wp2_with fail
    refine (xh_Round _ _ _).mono ?_
    rintro e w2 ⟨rfl, rfl⟩
    go_wp2_with fail
    refine (xh_Round _ _ _).mono ?_
    rintro e w2 ⟨rfl, rfl⟩
    go_wp2_with fail
    refine (xh_Round _ _ _).mono ?_
    rintro e w2 ⟨rfl, rfl⟩
    go_wp2_with fail
    refine (xh_Merge _ _ _).mono ?_
    rintro e w2 ⟨rfl, rfl⟩
    go_wp2_with fail
    refine (xh_Merge _ _ _).mono ?_
    rintro e w2 ⟨rfl, rfl⟩
    go_wp2_with fail
    refine (HPICK.out _).mono ?_
    rintro e w2 ⟨rfl, rfl⟩
    go_wp2_with fail
    refine (low_nat a (64 - k) _ HSUB.out.symm (by omega) _).mono ?_
    rintro e w2 ⟨rfl, rfl⟩
    go_wp2_with fail
    refine (high_nat a k _ rfl hk64 _).mono ?_
    rintro e w2 ⟨rfl, rfl⟩
    by_cases hk0 : k = 0
    · subst hk0
      have e1 : xlow a (64 - 0) = a := low_all a
      have e2 := xhigh_0 a
      rw [e1, e2]
      go_wp2
      go_ret
      exact ⟨by simp, hB⟩
    · have hk1 : ((k : Int) == 0) = false := beq_eq_false_iff_ne.2 (by omega)
      have hlh : bits .or .u64 (nb (xhigh a k <<< (64 - k))) (nb (xlow a (64 - k))) = nb a := by
        rw [bits_or64 _ _ (Nat.le_refl _) (Nat.le_refl _), BitVec.setWidth_eq, BitVec.setWidth_eq, low_high a k hk64]
      have hsh : IntKind.u64.wrap (nb (xhigh a k) * 2 ^ (64 - k)) = nb (xhigh a k <<< (64 - k)) := wrap_shl _ _
      clear hk0
      go_wp2_with fail
      refine (low_nat a 0 0 rfl (by omega) _).mono ?_
      rintro e w2 ⟨rfl, rfl⟩
      rw [xlow_0]
      go_wp2_with fail
      refine (high_nat a 64 64 rfl (by omega) _).mono ?_
      rintro e w2 ⟨rfl, rfl⟩
      rw [xhigh_64]
      go_wp2
      go_ret
      exact ⟨by simp, hB⟩
end Go.Proofs.Ytegmpejcolmnoaa
