/- A reader: the walks through number, Number, Err, Left. -/
import Derived.Test.YtjhgnohofcahbaaRdrA
import Derived.Handy
set_option linter.unusedVariables false
set_option linter.unusedSimpArgs false
namespace Go.Proofs.Ytjhgnohofcahbaa
open Go.ChangeShapes Go.WideShapes Go.ChangeAt Go.RowKit
attribute [local go_sem] nb_nonneg nb_lt8 nb_lt64 bits_and8l

/-- A number read: an error, or the number and how many bytes it has. -/
def rnum : List Byte → Nat → BitVec 64 → Int ⊕ (BitVec 64 × Nat)
  | [], _, _ => .inl 5
  | c :: cs, i, n => if (i = 9 ∧ 1#8 < c) ∨ (0 < i ∧ c = 0#8) then .inl 4 else
    if c < 128#8 then .inr (n ||| ((c &&& 127#8).setWidth 64) <<< (7 * i), i + 1) else rnum cs (i + 1) (n ||| ((c &&& 127#8).setWidth 64) <<< (7 * i))
/-- What number returns, and does. -/
def NumRes (R : Int ⊕ (BitVec 64 × Nat)) (base g : Nat) (xs : List Byte) (k : Nat) (er : Int) (w : World) (e : Ending) (w' : World) : Prop :=
  match R with
  | .inl x => e = .returned (.tuple #[.int .u64 0, .int .i64 0, .bool false]) ∧ Rdr w' base g xs k x ∧ TB g w w'
  | .inr (n, s) => e = .returned (.tuple #[.int .u64 (nb n), .int .i64 (s : Int), .bool true]) ∧ Rdr w' base g xs k er ∧ TB g w w' ∧ k + s ≤ xs.length

set_option maxRecDepth 100000 in
set_option maxHeartbeats 1000000 in
theorem oct_number {xs : List Byte} {base g k : Nat} {er : Int} {w : World} (h : Rdr w base g xs k er) (hl : xs.length ≤ 100000000000000) :
    Calls Try.prog 70 #[.pointer (some ⟨g, 0, none⟩)] w (NumRes (rnum (xs.drop k) 0 0#64) base g xs k er w) := by
  have H := Lib.hid h
  have hle := h.le
  obtain ⟨A, c, HQ, hc, hcm, HR, HB⟩ := h.cellsF
  obtain ⟨A', hcut, hcr, -⟩ := cut_lo A c xs k hle hc
  have HCR := Lib.hid (hcr w HR.out)
  have HDL := Lib.hid (show (xs.drop k).length = xs.length - k from List.length_drop)
  have hke : ((k : Int)) ≤ xs.length := by omega
  clear h hcr
  go_enter Try.func70, Try.ntmps70
  go_wp2_with fail
  obtain ⟨W0, hW0⟩ : ∃ W0 : World, W0 = w := ⟨_, rfl⟩
  subst hW0
  refine region_sch (E := FB) ((0, true) :: (1, true) :: (2, true) :: (3, true) :: (4, true) :: (5, true) :: (6, true) :: (7, true) :: (8, true) :: (9, true) :: []) (by kernel_rfl) FB.refl fb_trans (fun _ _ d _ _ h => by cases d <;> exact h) (by kernel_rfl) ?_
  intro ops hops0
  have hops := Lib.hid hops0
  clear hops0
  have HF : FB W0 W0.drew := (FB.refl _).drew
  generalize W0.drew = wF at *
  repeat (refine sch_take (o := ?_) (v := ?_) (a' := ?_) (at_of hops.out ?_) ?_ (fun W hW => ?_) ?_ ?_; rotate_left 3; (focus (simp only [List.getElem?_toArray, List.getElem?_cons_zero, List.getElem?_cons_succ]; rfl)); (focus (rw [hops.out]; rfl)); (focus (obtain ⟨q0, q1, q2, q3, q4, q5⟩ := HQ.out W (HF.trans hW); have q := hcut W; go_simp; with_reducible rfl)); (focus (simp only [Act.put, List.setIfInBounds_toArray, List.set_cons_zero, List.set_cons_succ]; rfl)))
  refine sch_done ?_
  have HF0 := Lib.hid (show FB W0 wF from HF)
  have HR0 := Lib.hid (H.out.fb HF)
  have HRD := Lib.hid (FB.rd HF HCR.out)
  clear hops HF hcut HCR
  obtain ⟨ys, hys⟩ : ∃ ys, ys = xs.drop k := ⟨_, rfl⟩
  have HYS := Lib.hid hys
  have hyl : xs.length - k = ys.length := by rw [hys]; exact HDL.out.symm
  rw [hyl, ← hys]
  rw [← hys] at HRD
  have hyl2 : ys.length ≤ 100000000000000 := by omega
  have HYL := Lib.hid hyl
  clear hyl hys
  go_wp2
  go_loop [2, 19] (fun n i => ∃ (j : Nat) (m : BitVec 64), j ≤ ys.length ∧ j ≤ 9 ∧ i = .int .i64 j ∧ n = .int .u64 (nb m) ∧ Hid (rnum ys 0 0#64 = rnum (ys.drop j) j m)) (fun _ i => ys.length - (intOf i).toNat)
  case atStart => exact ⟨0, 0#64, by omega, by omega, rfl, by rw [nb_zero], rfl⟩
  case round =>
    obtain ⟨j, m, hj, hj9, rfl, rfl, HN⟩ := hrel
    by_cases hlt : j < ys.length
    · obtain ⟨b0, o0, rfl, hb0, hcell⟩ := HRD.out.form (by omega)
      have hcj := hcell j hlt
      have HE := Lib.hid (show ys.drop j = ys[j] :: ys.drop (j + 1) from List.drop_eq_getElem_cons hlt)
      have hjx : (j : Int) < ys.length := by omega
      clear hcell
      generalize ys[j] = y at *
      unfold vb at hcj
      have HRN := Lib.hid (show rnum ys 0 0#64 = rnum (y :: ys.drop (j + 1)) j m by rw [HN.out, HE.out])
      clear HN HE
      by_cases hbad : (j = 9 ∧ 1#8 < y) ∨ (0 < j ∧ y = 0#8)
      · have hn : rnum ys 0 0#64 = .inl 4 := by rw [HRN.out, rnum, if_pos hbad]
        have HNN := Lib.hid hn
        have hb : (((j : Int) == 9) = true ∧ 1 < nb y) ∨ (((j : Int) == 9) = false ∧ 0 < (j : Int) ∧ (nb y == 0) = true) ∨ (((j : Int) == 9) = true ∧ ¬ 1 < nb y ∧ 0 < (j : Int) ∧ (nb y == 0) = true) := by
          have e1 : (1#8 < y) = (1 < nb y) := by rw [← nb_lt_nb]; rfl
          have e2 : (nb y == 0) = (y == 0#8) := nb_beq0 y
          rw [e2]
          rw [e1] at hbad
          by_cases h9 : j = 9
          · subst h9
            rcases hbad with h | h
            · exact .inl ⟨rfl, h.2⟩
            · exact .inr (.inr ⟨rfl, by rw [h.2]; decide, by decide, by rw [h.2]; rfl⟩)
          · have e9 : ((j : Int) == 9) = false := beq_eq_false_iff_ne.2 (by omega)
            rcases hbad with h | h
            · omega
            · exact .inr (.inl ⟨e9, by omega, by rw [h.2]; rfl⟩)
        clear hbad hn HRN
        rcases hb with ⟨h1, h2⟩ | ⟨h1, h2, h3⟩ | ⟨h1, h2, h3, h4⟩
        all_goals
          go_wp2_with fail
          refine (oct_fail HR0.out _).mono ?_
          rintro e w1 ⟨rfl, rfl⟩
          go_wp2
          go_ret3
          rw [← HYS.out, HNN.out]
          exact ⟨rfl, HR0.out.fail 4 (by omega), (TB.of HF0.out).trans (TB.set _ _ _)⟩
      · have HN2 := Lib.hid (show rnum ys 0 0#64 = if y < 128#8 then .inr (m ||| ((y &&& 127#8).setWidth 64) <<< (7 * j), j + 1) else rnum (ys.drop (j + 1)) (j + 1) (m ||| ((y &&& 127#8).setWidth 64) <<< (7 * j)) by rw [HRN.out, rnum, if_neg hbad])
        have hb : (((j : Int) == 9) = true ∧ ¬ 1 < nb y ∧ 0 < (j : Int) ∧ (nb y == 0) = false) ∨ (((j : Int) == 9) = false ∧ ¬ 0 < (j : Int)) ∨ (((j : Int) == 9) = false ∧ 0 < (j : Int) ∧ (nb y == 0) = false) := by
          have e1 : (1#8 < y) = (1 < nb y) := by rw [← nb_lt_nb]; rfl
          have e2 : (nb y == 0) = (y == 0#8) := nb_beq0 y
          rw [e2]
          rw [e1] at hbad
          simp only [not_or, not_and] at hbad
          by_cases h9 : j = 9
          · subst h9
            exact .inl ⟨rfl, hbad.1 rfl, by decide, beq_eq_false_iff_ne.2 (hbad.2 (by omega))⟩
          · have e9 : ((j : Int) == 9) = false := beq_eq_false_iff_ne.2 (by omega)
            by_cases h0 : 0 < j
            · exact .inr (.inr ⟨e9, by omega, beq_eq_false_iff_ne.2 (hbad.2 h0)⟩)
            · exact .inr (.inl ⟨e9, by omega⟩)
        have h99 : ¬ nb y < 128 → j + 1 ≤ 9 := by
          intro h
          rcases hb with ⟨h1, h2, -⟩ | ⟨h1, -⟩ | ⟨h1, -⟩
          · omega
          · have := beq_eq_false_iff_ne.1 h1; omega
          · have := beq_eq_false_iff_ne.1 h1; omega
        have H99 := Lib.hid h99
        have e128 : (y < 128#8) = (nb y < 128) := by rw [← nb_lt_nb]; rfl
        have E128 := Lib.hid e128
        obtain ⟨z64, hz64⟩ : ∃ z64, z64 = (y &&& 127#8).setWidth 64 := ⟨_, rfl⟩
        rw [← hz64] at HN2
        have hwz : IntKind.u64.wrap (nb (y &&& 127#8)) = nb z64 := by rw [hz64, nb_setWidth (y &&& 127#8) (by omega), wrap_u64]; exact Int.emod_eq_of_lt (nb_nonneg _) (by have := nb_lt8 (y &&& 127#8); omega)
        have hsh : IntKind.u64.wrap (nb z64 * 2 ^ (7 * j)) = nb (z64 <<< (7 * j)) := wrap_shl _ _
        have hor := bits_or64 m (z64 <<< (7 * j)) (Nat.le_refl _) (Nat.le_refl _)
        rw [BitVec.setWidth_eq, BitVec.setWidth_eq] at hor
        clear hz64
        have hw7 : IntKind.i64.wrap (7 * (j : Int)) = 7 * (j : Int) := by rw [IntKind.wrap_i64]; omega
        generalize hm2 : m ||| z64 <<< (7 * j) = m2 at *
        clear hbad HRN h99 e128 hm2
        by_cases h128 : nb y < 128
        · have hn : rnum ys 0 0#64 = .inr (m2, j + 1) := by rw [HN2.out, if_pos (by rw [E128.out]; exact h128)]
          have HNN := Lib.hid hn
          clear hn HN2 H99
          rcases hb with ⟨h1, h2, h4, h3⟩ | ⟨h1, h2⟩ | ⟨h1, h2, h3⟩
          all_goals
            go_wp2
            go_ret3
            rw [← HYS.out, HNN.out]
            exact ⟨rfl, HR0.out, TB.of HF0.out, by have := HYL.out; omega⟩
        · have HN3 := Lib.hid (show rnum ys 0 0#64 = rnum (ys.drop (j + 1)) (j + 1) m2 by rw [HN2.out, if_neg (by rw [E128.out]; exact h128)])
          have hj9' := H99.out h128
          clear HN2 H99
          rcases hb with ⟨h1, h2, h4, h3⟩ | ⟨h1, h2⟩ | ⟨h1, h2, h3⟩
          · exfalso
            have := beq_iff_eq.1 h1
            omega
          all_goals
            go_wp2
            go_round
            case rel => exact ⟨j + 1, m2, by omega, hj9', by go_num, rfl, HN3.out⟩
            case measure => simp [intOf]; omega
    · obtain rfl : j = ys.length := by omega
      go_wp2_with fail
      refine (oct_fail HR0.out _).mono ?_
      rintro e w1 ⟨rfl, rfl⟩
      go_wp2
      go_ret3
      have hn : rnum ys 0 0#64 = .inl 5 := by rw [HN.out, List.drop_length]; rfl
      rw [← HYS.out, hn]
      exact ⟨rfl, HR0.out.fail 5 (by omega), (TB.of HF0.out).trans (TB.set _ _ _)⟩
end Go.Proofs.Ytjhgnohofcahbaa
