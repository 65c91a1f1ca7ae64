/- record: the walks through key, Check. -/
import Derived.Test.YtjhgnohofcahbaaRdrD
import Derived.Test.YtjhgnohofcahbaaOctC
import Derived.Test.YtjhgnohofcahbaaStr
set_option linter.unusedVariables false
set_option linter.unusedSimpArgs false
namespace Go.Proofs.Ytjhgnohofcahbaa
open Go.ChangeShapes Go.WideShapes Go.ChangeAt Go.RowKit
attribute [local go_sem] nb_nonneg nb_lt8 nb_lt64

def recV (A : Option Addr) (n c : Nat) (over size : Int) (B : Option Addr) (m d : Nat) : Value := .agg #[.slice A n c, .int .i64 over, .int .i64 size, .slice B m d]
/-- May a record be? (the lengths of its key and its value) -/
def rcheck (n : Nat) (over size : Int) (m : Nat) : Int :=
  if n < 1 ∨ 512 < n ∨ size < 0 ∨ 131072 < size ∨ over < 0 ∨ 65536 < over then 2 else if over = 0 then (if (m : Int) = size then 0 else 2) else if m = 0 then 0 else 2

set_option maxRecDepth 100000 in
set_option maxHeartbeats 400000 in
theorem rec_key (A : Option Addr) (n c : Nat) (w : World) :
    Calls Try.prog 52 #[.slice A n c] w fun e w' => e = .returned (.bool (decide (1 ≤ n ∧ n ≤ 512))) ∧ w = w' := by
  by_cases h1 : 1 ≤ (n : Int)
  · go_enter Try.func52, Try.ntmps52
    go_wp2
    go_ret
    refine ⟨?_, rfl⟩
    congr 2
    have : 1 ≤ n := by omega
    simp [this]
    omega
  · go_enter Try.func52, Try.ntmps52
    go_wp2
    go_ret
    refine ⟨?_, rfl⟩
    congr 2
    simp
    omega
set_option maxRecDepth 100000 in
set_option maxHeartbeats 1000000 in
theorem rec_Check (A : Option Addr) (n c : Nat) (over size : Int) (B : Option Addr) (m d : Nat) (w : World) :
    Calls Try.prog 16 #[recV A n c over size B m d] w fun e w' => e = .returned (.int .i64 (rcheck n over size m)) ∧ FB w w' := by
  have hcase : (decide (1 ≤ n ∧ n ≤ 512) = false ∧ rcheck n over size m = 2) ∨ (decide (1 ≤ n ∧ n ≤ 512) = true ∧ size < 0 ∧ rcheck n over size m = 2) ∨ (decide (1 ≤ n ∧ n ≤ 512) = true ∧ ¬ size < 0 ∧ 131072 < size ∧ rcheck n over size m = 2) ∨
      (decide (1 ≤ n ∧ n ≤ 512) = true ∧ ¬ size < 0 ∧ ¬ 131072 < size ∧ over < 0 ∧ rcheck n over size m = 2) ∨ (decide (1 ≤ n ∧ n ≤ 512) = true ∧ ¬ size < 0 ∧ ¬ 131072 < size ∧ ¬ over < 0 ∧ 65536 < over ∧ rcheck n over size m = 2) ∨
      (decide (1 ≤ n ∧ n ≤ 512) = true ∧ ¬ size < 0 ∧ ¬ 131072 < size ∧ ¬ over < 0 ∧ ¬ 65536 < over ∧ (over == 0) = true ∧ ((m : Int) != size) = false ∧ rcheck n over size m = 0) ∨
      (decide (1 ≤ n ∧ n ≤ 512) = true ∧ ¬ size < 0 ∧ ¬ 131072 < size ∧ ¬ over < 0 ∧ ¬ 65536 < over ∧ (over == 0) = true ∧ ((m : Int) != size) = true ∧ rcheck n over size m = 2) ∨
      (decide (1 ≤ n ∧ n ≤ 512) = true ∧ ¬ size < 0 ∧ ¬ 131072 < size ∧ ¬ over < 0 ∧ ¬ 65536 < over ∧ (over == 0) = false ∧ (0 != (m : Int)) = false ∧ rcheck n over size m = 0) ∨
      (decide (1 ≤ n ∧ n ≤ 512) = true ∧ ¬ size < 0 ∧ ¬ 131072 < size ∧ ¬ over < 0 ∧ ¬ 65536 < over ∧ (over == 0) = false ∧ (0 != (m : Int)) = true ∧ rcheck n over size m = 2) := by
    unfold rcheck
    by_cases k1 : 1 ≤ n ∧ n ≤ 512
    · by_cases k2 : size < 0
      · exact .inr (.inl ⟨by simpa using k1, k2, by rw [if_pos (by omega)]⟩)
      · by_cases k3 : 131072 < size
        · exact .inr (.inr (.inl ⟨by simpa using k1, k2, k3, by rw [if_pos (by omega)]⟩))
        · by_cases k4 : over < 0
          · exact .inr (.inr (.inr (.inl ⟨by simpa using k1, k2, k3, k4, by rw [if_pos (by omega)]⟩)))
          · by_cases k5 : 65536 < over
            · exact .inr (.inr (.inr (.inr (.inl ⟨by simpa using k1, k2, k3, k4, k5, by rw [if_pos (by omega)]⟩))))
            · by_cases k6 : over = 0
              · by_cases k7 : (m : Int) = size
                · exact .inr (.inr (.inr (.inr (.inr (.inl ⟨by simpa using k1, k2, k3, k4, k5, by simpa using k6, by simpa using k7, by rw [if_neg (by omega), if_pos k6, if_pos k7]⟩)))))
                · exact .inr (.inr (.inr (.inr (.inr (.inr (.inl ⟨by simpa using k1, k2, k3, k4, k5, by simpa using k6, by simpa using k7, by rw [if_neg (by omega), if_pos k6, if_neg k7]⟩))))))
              · by_cases k7 : m = 0
                · exact .inr (.inr (.inr (.inr (.inr (.inr (.inr (.inl ⟨by simpa using k1, k2, k3, k4, k5, by simpa using k6, by simp [k7], by rw [if_neg (by omega), if_neg k6, if_pos k7]⟩)))))))
                · exact .inr (.inr (.inr (.inr (.inr (.inr (.inr (.inr ⟨by simpa using k1, k2, k3, k4, k5, by simpa using k6, by simp; omega, by rw [if_neg (by omega), if_neg k6, if_neg k7]⟩)))))))
    · exact .inl ⟨by simpa using k1, by rw [if_pos (by omega)]⟩
  generalize hdk : decide (1 ≤ n ∧ n ≤ 512) = dk at *
  generalize rcheck n over size m = rc at *
  have HKEY := Lib.hid (fun W => show Calls Try.prog 52 #[.slice A n c] W fun e w' => e = .returned (.bool dk) ∧ W = w' from by rw [← hdk]; exact rec_key A n c W)
  clear hdk
  unfold recV
  rcases hcase with ⟨rfl, rfl⟩ | ⟨rfl, h2, rfl⟩ | ⟨rfl, h2, h3, rfl⟩ | ⟨rfl, h2, h3, h4, rfl⟩ | ⟨rfl, h2, h3, h4, h5, rfl⟩ | ⟨rfl, h2, h3, h4, h5, h6, h7, rfl⟩ | ⟨rfl, h2, h3, h4, h5, h6, h7, rfl⟩ | ⟨rfl, h2, h3, h4, h5, h6, h7, rfl⟩ | ⟨rfl, h2, h3, h4, h5, h6, h7, rfl⟩
  · go_enter Try.func16, Try.ntmps16
    go_wp2_with fail
    refine (HKEY.out _).mono ?_
    rintro e w1 ⟨rfl, rfl⟩
    go_wp2
    go_ret
    exact ⟨rfl, (FB.refl w).alloc _⟩
  iterate 4
    · go_enter Try.func16, Try.ntmps16
      go_wp2_with fail
      refine (HKEY.out _).mono ?_
      rintro e w1 ⟨rfl, rfl⟩
      go_wp2
      go_ret
      exact ⟨rfl, (FB.refl w).alloc _⟩
  all_goals
    go_enter Try.func16, Try.ntmps16
    go_wp2_with fail
    refine (HKEY.out _).mono ?_
    rintro e w1 ⟨rfl, rfl⟩
    go_wp2
    go_ret
    exact ⟨rfl, by first | exact (((FB.refl w).alloc _).alloc _) | exact (((FB.refl w).alloc _).alloc _).set (by simp) _⟩
end Go.Proofs.Ytjhgnohofcahbaa
