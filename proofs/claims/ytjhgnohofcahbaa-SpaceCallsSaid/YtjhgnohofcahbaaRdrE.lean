/- A reader: Block, Upto, Fixed, whatever its error is. -/
import Derived.Test.YtjhgnohofcahbaaRdrD
set_option linter.unusedVariables false
set_option linter.unusedSimpArgs false
namespace Go.Proofs.Ytjhgnohofcahbaa
open Go.ChangeShapes Go.WideShapes Go.ChangeAt Go.RowKit

def sblk (xs : List Byte) (p : Nat) (e : Int) : List Byte × Nat × Int := if e = 0 then rblk xs p else ([], p, e)
def supto (xs : List Byte) (p : Nat) (e : Int) (m : BitVec 64) : BitVec 64 × Nat × Int := if e = 0 then rupto xs p m else (0#64, p, e)
def sfix (xs : List Byte) (p : Nat) (e : Int) (z : Int) : List Byte × Nat × Int := if e = 0 then (if (xs.length : Int) - p < z then ([], p, 5) else ((xs.drop p).take z.toNat, p + z.toNat, 0)) else ([], p, e)
section
variable {xs : List Byte} {base g k : Nat} {w : World} {er : Int} (h : Rdr w base g xs k er) (hl : xs.length ≤ 100000000000000)
include h hl
theorem oct_sBlock : Calls Try.prog 47 #[.pointer (some ⟨g, 0, none⟩)] w fun e w' => ∃ A c, e = .returned (.slice A (sblk xs k er).1.length c) ∧ Rd w' A (sblk xs k er).1 ∧ (∀ ad, A = some ad → w.heap.size ≤ ad.block ∧ ad.block < w'.heap.size) ∧ Rdr w' base g xs (sblk xs k er).2.1 (sblk xs k er).2.2 ∧ TB g w w' ∧ (sblk xs k er).1.length ≤ c ∧ c ≤ maxLen := by
  unfold sblk
  by_cases he : er = 0
  · subst he
    rw [if_pos rfl]
    refine (oct_RBlock h hl).mono fun e w' ⟨v, h1, h2, h3, h4⟩ => ?_
    obtain ⟨A, c, rfl, h7, h8, h5, h6⟩ := Own.form h2
    exact ⟨A, c, h1, h5, h6, h3, h4, h7, h8⟩
  · rw [if_neg he]
    refine (oct_RBlock_err h he).mono fun e w' ⟨h1, h2⟩ => ?_
    subst h2
    exact ⟨none, 0, h1, Rd.nil _ _, fun ad ha => (by cases ha), h, TB.refl _ _, by simp, by simp [maxLen]⟩
theorem oct_sUpto (m : BitVec 64) : Calls Try.prog 48 #[.pointer (some ⟨g, 0, none⟩), .int .u64 (nb m)] w fun e w' => e = .returned (.int .u64 (nb (supto xs k er m).1)) ∧ Rdr w' base g xs (supto xs k er m).2.1 (supto xs k er m).2.2 ∧ TB g w w' := by
  unfold supto
  by_cases he : er = 0
  · subst he
    rw [if_pos rfl]
    exact oct_Upto h hl m
  · rw [if_neg he]
    refine (oct_Upto_err h he (nb m)).mono fun e w' ⟨h1, h2⟩ => ?_
    subst h2
    exact ⟨by rw [nb_zero]; exact h1, h, TB.refl _ _⟩
theorem oct_sFixed (z : Int) (hz : 0 ≤ z ∧ z ≤ 9223372036854775807) : Calls Try.prog 49 #[.pointer (some ⟨g, 0, none⟩), .int .i64 z] w fun e w' => ∃ A c, e = .returned (.slice A (sfix xs k er z).1.length c) ∧ Rd w' A (sfix xs k er z).1 ∧ (∀ ad, A = some ad → w.heap.size ≤ ad.block ∧ ad.block < w'.heap.size) ∧ Rdr w' base g xs (sfix xs k er z).2.1 (sfix xs k er z).2.2 ∧ TB g w w' := by
  have hle := h.le
  unfold sfix
  by_cases he : er = 0
  · subst he
    rw [if_pos rfl]
    by_cases hk : (xs.length : Int) - k < z
    · rw [if_pos hk]
      refine (oct_Fixed_more h z hk hz.2 hl).mono fun e w' ⟨v, h1, h2, h3, h4⟩ => ?_
      obtain ⟨A, c, rfl, -, -, h5, h6⟩ := Own.form h2
      exact ⟨A, c, h1, h5, h6, h3, h4⟩
    · rw [if_neg hk]
      refine (oct_Fixed_ok h z z.toNat (by omega) (by omega) hl).mono fun e w' ⟨v, h1, h2, h3, h4⟩ => ?_
      obtain ⟨A, c, rfl, -, -, h5, h6⟩ := Own.form h2
      exact ⟨A, c, h1, h5, h6, h3, h4⟩
  · rw [if_neg he]
    refine (oct_Fixed_err h he z).mono fun e w' ⟨h1, h2⟩ => ?_
    subst h2
    exact ⟨none, 0, h1, Rd.nil _ _, fun ad ha => (by cases ha), h, TB.refl _ _⟩
end
theorem supto_le (xs : List Byte) (p : Nat) (e : Int) (m : BitVec 64) : (supto xs p e m).1.toNat ≤ m.toNat := by
  unfold supto rupto
  split
  · split
    · simp
    · split
      · simp
      · rename_i h; rw [BitVec.lt_def] at h; simp only; omega
  · simp
end Go.Proofs.Ytjhgnohofcahbaa
