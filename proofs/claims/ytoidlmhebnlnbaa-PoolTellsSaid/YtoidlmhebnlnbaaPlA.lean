/- pool: the walks through made, right, find, save. -/
import Derived.Test.YtoidlmhebnlnbaaPlM
set_option linter.unusedVariables false
set_option linter.unusedSimpArgs false
namespace Go.Proofs.Ytoidlmhebnlnbaa
open Go.ChangeShapes Go.WideShapes Go.ChangeAt Go.RowKit
attribute [local go_sem] nb_nonneg nb_lt8 nb_lt64
set_option maxRecDepth 100000

section
variable {w : World} {F : List Nat} {g n gp gf hand : Nat} {xs : List FrX} {D : DiskSt}
theorem Pol.pcells (h : Pol w F g n gp gf xs hand D) : w.cell? ⟨gp, 0, none⟩ = some (.pointer (some ⟨g, 0, none⟩)) ∧ w.cell? ⟨gp, 1, none⟩ = some (.slice (some ⟨gf, 0, none⟩) xs.length xs.length) ∧ w.cell? ⟨gp, 2, none⟩ = some (.int .i64 hand) := by
  refine ⟨?_, ?_, ?_⟩ <;> (rw [cell_of_row _ _ _ _ _ _ h.prow]; rfl)
set_option maxHeartbeats 400000 in
theorem pl_made (h : Pol w F g n gp gf xs hand D) :
    Calls Try.prog 28 #[.pointer (some ⟨gp, 0, none⟩)] w fun e w' => e = .returned (.bool true) ∧ w = w' := by
  obtain ⟨p0, p1, p2⟩ := h.pcells
  clear h
  go_enter Try.func28, Try.ntmps28
  go_wp2
  go_ret
  exact ⟨rfl, rfl⟩
set_option maxHeartbeats 400000 in
theorem pl_right (h : Pol w F g n gp gf xs hand D) (k : Int) :
    Calls Try.prog 33 #[.pointer (some ⟨gp, 0, none⟩), .int .i64 k] w fun e w' => e = .returned (.bool (!decide (pgOut n k))) ∧ w = w' := by
  obtain ⟨p0, p1, p2⟩ := h.pcells
  have HP := Lib.hid (pg_Pages h.dsk)
  by_cases h1 : k < 0
  · have HR := Lib.hid (decide_eq_true (show pgOut n k from .inl h1))
    have h2 : ¬ 0 ≤ k := by omega
    clear h HP
    go_enter Try.func33, Try.ntmps33
    go_wp2
    go_ret
    exact ⟨by rw [HR.out]; rfl, rfl⟩
  · have h2 : 0 ≤ k := by omega
    have HG := Lib.hid (show decide (pgOut n k) = decide (((n / 8 : Nat) : Int) ≤ k) from by unfold pgOut; by_cases hh : ((n / 8 : Nat) : Int) ≤ k <;> simp [hh, h1])
    generalize n / 8 = m at *
    clear h h1
    by_cases h3 : k < (m : Int)
    · have HR := Lib.hid (show decide (pgOut n k) = false from by rw [HG.out]; exact decide_eq_false (by omega))
      go_enter Try.func33, Try.ntmps33
      go_wp2_with fail
      refine HP.out.mono ?_
      rintro e w1 ⟨rfl, rfl⟩
      go_wp2
      go_ret
      first | exact ⟨by rw [HR.out]; rfl, rfl⟩ | exact ⟨by rw [HR.out]; simp [h3], rfl⟩
    · have HR := Lib.hid (show decide (pgOut n k) = true from by rw [HG.out]; exact decide_eq_true (by omega))
      go_enter Try.func33, Try.ntmps33
      go_wp2_with fail
      refine HP.out.mono ?_
      rintro e w1 ⟨rfl, rfl⟩
      have hd : decide (k < (m : Int)) = false := decide_eq_false (by omega)
      go_wp2
      go_ret
      first | exact ⟨by rw [HR.out]; rfl, rfl⟩ | exact ⟨by rw [HR.out]; simp [h3], rfl⟩
/-- A frame, as a pointer. -/
def plPtr (gf : Nat) : Option Nat → Value
  | some i => .pointer (some ⟨gf, i * 6, none⟩)
  | none => .pointer none
set_option maxHeartbeats 1000000 in
theorem pl_find (h : Pol w F g n gp gf xs hand D) (k : Int) :
    Calls Try.prog 31 #[.pointer (some ⟨gp, 0, none⟩), .int .i64 k] w fun e w' => e = .returned (plPtr gf (plFind (xs.map (·.f)) k)) ∧ w = w' := by
  obtain ⟨p0, p1, p2⟩ := h.pcells
  have H := Lib.hid h
  have HN := Lib.hid h.n256
  obtain ⟨R, hR⟩ : ∃ R, R = plFind (xs.map (·.f)) k := ⟨_, rfl⟩
  rw [← hR]
  have HR := Lib.hid hR
  clear h hR
  go_enter Try.func31, Try.ntmps31
  go_wp2_with fail
  go_loop [5, 6, 12] (fun _ _ i => ∃ j : Nat, j ≤ xs.length ∧ i = .int .i64 j ∧ Hid (R = plIx (fun f => plHas f k) ((xs.map (·.f)).drop j) j)) (fun _ _ i => xs.length - (intOf i).toNat)
  case atStart => exact ⟨0, by omega, rfl, HR⟩
  case round =>
    obtain ⟨j, hj, rfl, HX⟩ := hrel
    by_cases hlt : j < xs.length
    · have hz : (j : Int) < (xs.length : Int) := by omega
      obtain ⟨c0, c1, c2, c3, c4, c5⟩ := H.out.cells j hlt
      have hx := HX.out
      rw [plIx_drop (by rw [List.length_map]; exact hlt), List.getElem_map] at hx
      generalize xs[j] = x at *
      obtain ⟨⟨is, pg, pins, dirty, used, b⟩, A, c⟩ := x
      simp only at c0 c1 c2 c3 c4 c5
      unfold plHas at hx
      simp only at hx
      have HJ := Lib.hid hlt
      have hwk : IntKind.i64.wrap ((j : Int) + 1) = (j : Int) + 1 := by rw [IntKind.wrap_i64]; have := HN.out; omega
      cases is with
      | false =>
        have HX2 := Lib.hid (hx.trans (by rw [if_neg (by simp)]))
        clear hx HX hlt hj
        go_wp2
        go_round
        case rel => exact ⟨j + 1, by have := HJ.out; omega, by go_num, HX2⟩
        case measure => (show xs.length - ((j : Int) + 1).toNat < xs.length - ((j : Int)).toNat; have := HJ.out; omega)
      | true =>
        by_cases hk : pg = k
        · have hkb : (pg == k) = true := by simpa using hk
          have HX2 := Lib.hid (hx.trans (by rw [if_pos (by simp [hk])]))
          clear hx HX hlt hj hk
          go_wp2
          go_ret
          exact ⟨by rw [HX2.out]; rfl, rfl⟩
        · have hkb : (pg == k) = false := by simpa using hk
          have HX2 := Lib.hid (hx.trans (by rw [if_neg (by simp [hk])]))
          clear hx HX hlt hj hk
          go_wp2
          go_round
          case rel => exact ⟨j + 1, by have := HJ.out; omega, by go_num, HX2⟩
          case measure => (show xs.length - ((j : Int) + 1).toNat < xs.length - ((j : Int)).toNat; have := HJ.out; omega)
    · have hz : ¬ (j : Int) < (xs.length : Int) := by omega
      have HX2 := Lib.hid (show R = none from by have := HX.out; rw [List.drop_of_length_le (by rw [List.length_map]; omega)] at this; exact this)
      clear HX hlt
      go_wp2
      go_ret
      exact ⟨by rw [HX2.out]; rfl, rfl⟩
end
end Go.Proofs.Ytoidlmhebnlnbaa
