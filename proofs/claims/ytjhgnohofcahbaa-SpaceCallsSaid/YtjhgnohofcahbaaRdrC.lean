/- A reader: the walks through Number, Err, Left. -/
import Derived.Test.YtjhgnohofcahbaaRdrB
set_option linter.unusedVariables false
set_option linter.unusedSimpArgs false
namespace Go.Proofs.Ytjhgnohofcahbaa
open Go.ChangeShapes Go.WideShapes Go.ChangeAt Go.RowKit
attribute [local go_sem] nb_nonneg nb_lt8 nb_lt64

def numVal : Int ⊕ (BitVec 64 × Nat) → BitVec 64 | .inl _ => 0#64 | .inr (n, _) => n
def numLen : Int ⊕ (BitVec 64 × Nat) → Nat | .inl _ => 0 | .inr (_, s) => s
def numErr : Int ⊕ (BitVec 64 × Nat) → Int | .inl x => x | .inr _ => 0

set_option maxRecDepth 100000 in
set_option maxHeartbeats 1000000 in
theorem oct_RNumber {xs : List Byte} {base g k : Nat} {w : World} (h : Rdr w base g xs k 0) (hl : xs.length ≤ 100000000000000) :
    Calls Try.prog 72 #[.pointer (some ⟨g, 0, none⟩)] w fun e w' => e = .returned (.int .u64 (nb (numVal (rnum (xs.drop k) 0 0#64)))) ∧ Rdr w' base g xs (k + numLen (rnum (xs.drop k) 0 0#64)) (numErr (rnum (xs.drop k) 0 0#64)) ∧ TB g w w' := by
  have H := Lib.hid h
  have hn := oct_number h hl
  clear h
  generalize rnum (xs.drop k) 0 0#64 = R at *
  have HN := Lib.hid hn
  clear hn
  go_enter Try.func72, Try.ntmps72
  go_wp2_with fail
  refine (oct_ready H.out).mono ?_
  rintro e w1 ⟨rfl, rfl⟩
  go_wp2_with fail
  refine HN.out.mono ?_
  intro e w1 hres
  cases R with
  | inl x =>
    obtain ⟨rfl, hr, ht⟩ := hres
    have HR1 := Lib.hid hr
    have HT1 := Lib.hid ht
    clear hr ht
    go_wp2
    go_ret
    exact ⟨by simp [numVal, nb_zero], HR1.out, HT1.out⟩
  | inr p =>
    obtain ⟨n, s⟩ := p
    obtain ⟨rfl, hr, ht, hs⟩ := hres
    obtain ⟨A, c, h0, h1, h2, h3, f1, f2, hc, hm, HR, HB⟩ := hr.cells
    have HR1 := Lib.hid hr
    have HT1 := Lib.hid ht
    clear hr ht
    have hwa : IntKind.i64.wrap ((k : Int) + (s : Int)) = (k : Int) + (s : Int) := by rw [IntKind.wrap_i64]; omega
    go_wp2
    go_ret
    have hput := HR1.out.put (k + s) hs
    rw [Int.natCast_add] at hput
    exact ⟨rfl, hput, HT1.out.trans (TB.set w1 1 _)⟩
set_option maxRecDepth 100000 in
set_option maxHeartbeats 400000 in
theorem oct_Err {xs : List Byte} {base g k : Nat} {er : Int} {w : World} (h : Rdr w base g xs k er) :
    Calls Try.prog 56 #[.pointer (some ⟨g, 0, none⟩)] w fun e w' => e = .returned (.int .i64 er) ∧ w = w' := by
  obtain ⟨A, c, h0, h1, h2, h3, f1, f2, hc, hm, HR, HB⟩ := h.cells
  have H := Lib.hid h
  clear h
  go_enter Try.func56, Try.ntmps56
  go_wp2_with fail
  refine (oct_made H.out).mono ?_
  rintro e w1 ⟨rfl, rfl⟩
  go_wp2
  go_ret
  exact ⟨rfl, rfl⟩
end Go.Proofs.Ytjhgnohofcahbaa
