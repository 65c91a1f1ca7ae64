/- Walks and laws that the claim's last text stands on, several texts in one file: RdrA, Str, PgA, PgB, Apz, PgC. Under the hypotheses that each theorem states. -/
import Derived.Laws.IdiomStrings
import Derived.Lib.BufferRead
import Derived.Laws.BitsLemmas
import Derived.Deep.Cut
import Derived.Deep.CutRange
import Derived.Laws.AppendOwn
import Derived.Laws.MakeOwn
import Derived.Test.YtoidlmhebnlnbaaDoorMCha
import Derived.Test.YtoidlmhebnlnbaaDoorMChb
import Derived.Test.YtoidlmhebnlnbaaDoorMChc
import Derived.Test.YtoidlmhebnlnbaaDoorMChd
import Derived.Test.YtoidlmhebnlnbaaDoorMChe
import Derived.Test.YtoidlmhebnlnbaaDoorMChf
/- A reader: the walks through Fixed, Word. -/
set_option linter.unusedVariables false
set_option linter.unusedSimpArgs false
namespace Go.Proofs.YtoidlmhebnlnbaaDoor
open Go.ChangeShapes Go.WideShapes Go.ChangeAt Go.RowKit
attribute [local go_sem] nb_nonneg nb_lt8 nb_lt64

/-- x[k:k+n]. -/
theorem cut_mid (A : Option Addr) (c : Nat) (xs : List Byte) (k n : Nat) (hk : k + n ≤ xs.length) (hc : xs.length ≤ c) :
    ∃ A', (∀ W, (Instr.slice 27 (.slice A xs.length c) (some (.int .i64 (k : Int))) (some (.int .i64 ((k : Int) + (n : Int)))) none).run Tryd.prog W = .ok (.slice A' n (c - k)) W) ∧ (∀ w, Rd w A xs → Rd w A' ((xs.drop k).take n)) := by
  obtain ⟨i, hi, _, hsz, _⟩ := info_parts info_u8
  refine ⟨if c = k then A else A.map (·.add k), fun W => ?_, fun w h => ?_⟩
  · have hel : Tryd.prog.elem 27 = 5 := by simp [Program.elem, Tryd.underlying27]
    have hu : Tryd.prog.underlying 27 = some (.slice (Tryd.prog.elem 27)) := by rw [hel]; exact Tryd.underlying27
    rw [run_slice_lh W 27 A xs.length c hu .i64 .i64 (k : Int) ((k : Int) + (n : Int)) (Int.natCast_nonneg _) (by omega) (by omega), hel]
    simp [sizeOf, typeInfo, hi, hsz, sliced, Result.andThen]
    omega
  · by_cases hck : c = k
    · have : n = 0 := by omega
      subst this
      rw [List.take_zero]; exact Rd.nil _ _
    · rw [if_neg hck]
      apply Rd.take
      intro j hj
      simp only [vbs_length, List.length_drop] at hj
      obtain ⟨b, o, rfl, hb, hcell⟩ := h.form (by omega)
      refine ⟨b, o + k, ?_, ?_⟩
      · have : (⟨b, o, none⟩ : Addr).add k = ⟨b, o + k, none⟩ := by unfold Addr.add; split <;> simp_all
        simp [this]
      · have := hcell (k + j) (by omega)
        rw [Nat.add_assoc, this]
        simp [vbs]
theorem Rdr.cellsF {w : World} {base g : Nat} {xs : List Byte} {k : Nat} {e : Int} (h : Rdr w base g xs k e) : ∃ A c,
    Hid (∀ W, Below w.heap.size w W → W.cell? ⟨g, 0, none⟩ = some (.slice A xs.length c) ∧ W.cell? ⟨g, 1, none⟩ = some (.int .i64 k) ∧ W.cell? ⟨g, 2, none⟩ = some (.int .i64 e) ∧ W.cell? ⟨g, 3, none⟩ = some (.bool true) ∧
    W.frozen? ⟨g, 1, none⟩ = false ∧ W.frozen? ⟨g, 2, none⟩ = false) ∧ xs.length ≤ c ∧ c ≤ maxLen ∧ Hid (Rd w A xs) ∧ Hid (∀ ad, A = some ad → base ≤ ad.block ∧ ad.block < g) := by
  obtain ⟨A, c, h1, h2, h3, h4, h5⟩ := h.row
  refine ⟨A, c, fun W hW => ?_, h2, h3, h4, h5⟩
  have h1 : W.heap[g]? = _ := (FB.block (w0 := w) hW g h.lt).trans h1
  exact ⟨by rw [cell_of_row _ _ _ _ _ _ h1]; rfl, by rw [cell_of_row _ _ _ _ _ _ h1]; rfl, by rw [cell_of_row _ _ _ _ _ _ h1]; rfl, by rw [cell_of_row _ _ _ _ _ _ h1]; rfl, frozen_row _ h1 _, frozen_row _ h1 _⟩

set_option maxRecDepth 100000 in
set_option maxHeartbeats 1000000 in
/-- So many bytes that are there. -/
theorem oct_Fixed_ok {xs : List Byte} {base g k : Nat} {w : World} (h : Rdr w base g xs k 0) (z : Int) (n : Nat) (hz : max 0 z = (n : Int)) (hn : k + n ≤ xs.length) (hl : xs.length ≤ 100000000000000) :
    Calls Tryd.prog 50 #[.pointer (some ⟨g, 0, none⟩), .int .i64 z] w fun e w' => ∃ v, e = .returned v ∧ Own w' w.heap.size v ((xs.drop k).take n) ∧ Rdr w' base g xs (k + n) 0 ∧ TB g w w' := by
  have hmax : ∀ (ts : Array TypeId) (t : TypeId) (W : World), (Builtin.max_ ts t #[.int .i64 0, .int .i64 z]).run Tryd.prog W = .ok (.int .i64 (n : Int)) W := fun ts t W => by
    rw [← hz, run_max_int2]; congr 2; split <;> omega
  have H := Lib.hid h
  obtain ⟨A, c, HQ, hc, hcm, HR, HB⟩ := h.cellsF
  obtain ⟨A', hcut, hcr⟩ := cut_mid A c xs k n hn hc
  have HCR := Lib.hid (hcr w HR.out)
  have hlen : ((xs.drop k).take n).length = n := by rw [List.length_take, List.length_drop]; omega
  have HLEN := Lib.hid hlen
  have hk0 : k ≤ xs.length := by omega
  have hwr : IntKind.i64.wrap ((xs.length : Int) - (k : Int)) = (xs.length : Int) - (k : Int) := by rw [IntKind.wrap_i64]; omega
  have hd : decide ((xs.length : Int) - (k : Int) < (n : Int)) = false := by simp; omega
  have hwa : IntKind.i64.wrap ((k : Int) + (n : Int)) = (k : Int) + (n : Int) := by rw [IntKind.wrap_i64]; omega
  clear h hcr hlen hz
  go_enter Tryd.func50, Tryd.ntmps50
  go_wp2_with fail
  refine (oct_ready H.out).mono ?_
  rintro e w1 ⟨rfl, rfl⟩
  go_wp2_with fail
  obtain ⟨W0, hW0⟩ : ∃ W0 : World, W0 = w := ⟨_, rfl⟩
  subst hW0
  refine region_sch (E := FB) ((0, true) :: (1, true) :: (2, true) :: (3, true) :: (4, true) :: (5, true) :: (6, true) :: (7, true) :: (8, true) :: (9, true) :: (10, true) :: (11, true) :: []) (by kernel_rfl) FB.refl fb_trans (fun _ _ d _ _ h => by cases d <;> exact h) (by kernel_rfl) ?_
  intro ops hops0
  have hops := Lib.hid hops0
  clear hops0
  have HF : FB W0 W0.drew := (FB.refl _).drew
  generalize W0.drew = wF at *
  repeat (refine sch_take (o := ?_) (v := ?_) (a' := ?_) (at_of hops.out ?_) ?_ (fun W hW => ?_) ?_ ?_; rotate_left 3; (focus (simp only [List.getElem?_toArray, List.getElem?_cons_zero, List.getElem?_cons_succ]; rfl)); (focus (rw [hops.out]; rfl)); (focus (obtain ⟨q0, q1, q2, q3, q4, q5⟩ := HQ.out W (HF.trans hW); go_simp; with_reducible rfl)); (focus (simp only [Act.put, List.setIfInBounds_toArray, List.set_cons_zero, List.set_cons_succ]; rfl)))
  refine sch_done ?_
  clear hops
  have HF0 := Lib.hid HF
  obtain ⟨q0, q1, q2, q3, q4, q5⟩ := HQ.out wF HF
  clear HF
  go_wp2_with fail
  have HQ1 := Lib.hid (fun W (hW : FB wF W) => HQ.out W (Below.trans HF0.out (Below.mono hW (FB.le HF0.out))))
  have HRF := Lib.hid ((FB.rd (w0 := W0) HF0.out HR.out))
  have HCF := Lib.hid ((FB.rd (w0 := W0) HF0.out HCR.out))
  clear q0 q1 q2 q3 q4 q5
  generalize hwF : wF = W1 at *
  clear hwF
  refine region_sch (E := Below (W1.heap.size)) ((1, true) :: (2, true) :: (3, true) :: (4, true) :: (5, true) :: (6, true) :: (7, true) :: (8, true) :: (9, true) :: (10, true) :: (11, true) :: (12, true) :: (13, true) :: (14, true) :: (15, true) :: (0, false) :: (16, false) :: (17, true) :: []) (by kernel_rfl) (Below.refl _) (fun _ _ _ h k => Below.trans h k) (fun _ _ d _ _ h => by cases d <;> exact h) (by kernel_rfl) ?_
  intro ops hops0
  have hops := Lib.hid hops0
  clear hops0
  have HF : Below (W1.heap.size) W1 W1.drew := (Below.refl _ _).drew
  generalize W1.drew = wF1 at *
  repeat (refine sch_take (o := ?_) (v := ?_) (a' := ?_) (at_of hops.out ?_) ?_ (fun W hW => ?_) ?_ ?_; rotate_left 3; (focus (simp only [List.getElem?_toArray, List.getElem?_cons_zero, List.getElem?_cons_succ]; rfl)); (focus (rw [hops.out]; rfl)); (focus (obtain ⟨q0, q1, q2, q3, q4, q5⟩ := HQ1.out W (HF.trans hW); have q := hcut W; go_simp; with_reducible rfl)); (focus (simp only [Act.put, List.setIfInBounds_toArray, List.set_cons_zero, List.set_cons_succ]; rfl)))
  have hle : W1.heap.size ≤ wF1.heap.size := HF.size
  have HLE := Lib.hid hle
  clear hle
  (refine sch_run (o := ?_) (v := ?_) (a' := ?_) (w' := ?_) (at_of hops.out ?_) ?_ ?_ ?_ ?_ ?_; rotate_left 4; (focus (simp only [List.getElem?_toArray, List.getElem?_cons_zero, List.getElem?_cons_succ]; rfl)); (focus (rw [hops.out]; rfl)); (focus (go_simp; constructor <;> with_reducible rfl)); (focus (exact (Below.refl _ _).alloc HLE.out _)); (focus (simp only [Act.put, List.setIfInBounds_toArray, List.set_cons_zero, List.set_cons_succ]; rfl)))
  (refine sch_append_bytes (o := ?_) (at_of hops.out ?_) ?_ (.tmp 25) (.tmp 40) ?_ wF1.heap.size _ [] (OwnV.lit _ wF1 [] (by simp)) ?_ A' n (c - k) ((xs.drop k).take n) HLEN.out.symm ?_ ((HCF.out.below (w' := wF1) HF).alloc _) (by rw [HLEN.out]; simp; omega) (by simp) ?_; rotate_left 1; (focus (simp only [List.getElem?_toArray, List.getElem?_cons_zero, List.getElem?_cons_succ]; rfl)); (focus (rw [hops.out]; rfl)); (focus rfl); (focus rfl); (focus rfl))
  intro v' w' ho hg _
  rw [List.nil_append] at ho
  have hE : Below W1.heap.size (wF1.alloc (.cells #[] 5)) w' := (Below.refl _ _).grown hg (by have := HLE.out; simp; omega) (by have := HLE.out; simp [Value.ownBlock]; omega)
  have HO2 := Lib.hid ho
  have HE := Lib.hid hE
  clear ho hg hE
  refine ⟨HE.out, ?_⟩
  intro a' ha'
  simp only [Act.put, List.setIfInBounds_toArray, List.set_cons_zero, List.set_cons_succ] at ha'
  subst ha'
  repeat (refine sch_take (o := ?_) (v := ?_) (a' := ?_) (at_of hops.out ?_) ?_ (fun W hW => ?_) ?_ ?_; rotate_left 3; (focus (simp only [List.getElem?_toArray, List.getElem?_cons_zero, List.getElem?_cons_succ]; rfl)); (focus (rw [hops.out]; rfl)); (focus (go_simp; with_reducible rfl)); (focus (simp only [Act.put, List.setIfInBounds_toArray, List.set_cons_zero, List.set_cons_succ]; rfl)))
  refine sch_done ?_
  have HF2 := Lib.hid (show FB W1 w' from (HF.trans (((Below.refl _ _).alloc HLE.out _).trans HE.out)))
  have HO3 := Lib.hid (Own.lower HO2.out (Nat.le_trans (FB.le HF0.out) HLE.out))
  have HR3 := Lib.hid ((H.out.fb HF0.out).fb HF2.out)
  clear hops HF HE HO2 hcut
  obtain ⟨q0, q1, q2, q3, q4, q5⟩ := HQ1.out w' HF2.out
  go_wp2
  go_ret
  have hput := HR3.out.put (k + n) hn
  rw [Int.natCast_add] at hput
  exact ⟨_, rfl, (TB.set w' 1 _).own HO3.out H.out.lt, hput, (TB.of (FB.trans HF0.out HF2.out)).trans (TB.set w' 1 _)⟩

set_option maxRecDepth 100000 in
set_option maxHeartbeats 1000000 in
/-- More bytes than there are. -/
theorem oct_Fixed_more {xs : List Byte} {base g k : Nat} {w : World} (h : Rdr w base g xs k 0) (z : Int) (hz : (xs.length : Int) - k < z) (hz2 : z ≤ 9223372036854775807) (hl : xs.length ≤ 100000000000000) :
    Calls Tryd.prog 50 #[.pointer (some ⟨g, 0, none⟩), .int .i64 z] w fun e w' => ∃ v, e = .returned v ∧ Own w' w.heap.size v [] ∧ Rdr w' base g xs k 5 ∧ TB g w w' := by
  have hle := h.le
  have hmax : ∀ (ts : Array TypeId) (t : TypeId) (W : World), (Builtin.max_ ts t #[.int .i64 0, .int .i64 z]).run Tryd.prog W = .ok (.int .i64 z) W := fun ts t W => by
    rw [run_max_int2]; congr 2; split <;> omega
  have H := Lib.hid h
  obtain ⟨A, c, HQ, hc, hcm, HR, HB⟩ := h.cellsF
  have hwr : IntKind.i64.wrap ((xs.length : Int) - (k : Int)) = (xs.length : Int) - (k : Int) := by rw [IntKind.wrap_i64]; omega
  have hd : decide ((xs.length : Int) - (k : Int) < z) = true := by simp; omega
  clear h
  go_enter Tryd.func50, Tryd.ntmps50
  go_wp2_with fail
  refine (oct_ready H.out).mono ?_
  rintro e w1 ⟨rfl, rfl⟩
  go_wp2_with fail
  obtain ⟨W0, hW0⟩ : ∃ W0 : World, W0 = w := ⟨_, rfl⟩
  subst hW0
  refine region_sch (E := FB) ((0, true) :: (1, true) :: (2, true) :: (3, true) :: (4, true) :: (5, true) :: (6, true) :: (7, true) :: (8, true) :: (9, true) :: (10, true) :: (11, true) :: []) (by kernel_rfl) FB.refl fb_trans (fun _ _ d _ _ h => by cases d <;> exact h) (by kernel_rfl) ?_
  intro ops hops0
  have hops := Lib.hid hops0
  clear hops0
  have HF : FB W0 W0.drew := (FB.refl _).drew
  generalize W0.drew = wF at *
  repeat (refine sch_take (o := ?_) (v := ?_) (a' := ?_) (at_of hops.out ?_) ?_ (fun W hW => ?_) ?_ ?_; rotate_left 3; (focus (simp only [List.getElem?_toArray, List.getElem?_cons_zero, List.getElem?_cons_succ]; rfl)); (focus (rw [hops.out]; rfl)); (focus (obtain ⟨q0, q1, q2, q3, q4, q5⟩ := HQ.out W (HF.trans hW); go_simp; with_reducible rfl)); (focus (simp only [Act.put, List.setIfInBounds_toArray, List.set_cons_zero, List.set_cons_succ]; rfl)))
  refine sch_done ?_
  clear hops
  have HF0 := Lib.hid HF
  have HR0 := Lib.hid (H.out.fb (show FB W0 wF from HF))
  obtain ⟨q0, q1, q2, q3, q4, q5⟩ := HQ.out wF HF
  clear HF
  go_wp2_with fail
  refine (oct_fail HR0.out _).mono ?_
  rintro e w1 ⟨rfl, rfl⟩
  go_wp2
  go_ret
  exact ⟨_, rfl, Own.nil _ _, HR0.out.fail 5 (by omega), (TB.of HF0.out).trans (TB.set wF 2 _)⟩
set_option maxRecDepth 100000 in
set_option maxHeartbeats 1000000 in
theorem oct_Fixed_err {xs : List Byte} {base g k : Nat} {w : World} {er : Int} (h : Rdr w base g xs k er) (he : er ≠ 0) (z : Int) :
    Calls Tryd.prog 50 #[.pointer (some ⟨g, 0, none⟩), .int .i64 z] w fun e w' => e = .returned (.slice none 0 0) ∧ w = w' := by
  have H := Lib.hid h
  have hd : (er == 0) = false := beq_eq_false_iff_ne.2 he
  clear h he
  go_enter Tryd.func50, Tryd.ntmps50
  go_wp2_with fail
  refine (oct_ready H.out).mono ?_
  rintro e w1 ⟨rfl, rfl⟩
  go_wp2
  go_ret
  exact ⟨rfl, rfl⟩

/-! ### Word -/
/-- The number that the lowest bytes are. -/
theorem xword_snoc (xs : List Byte) (b : Byte) (h : xs.length ≤ 7) : xword (xs ++ [b]) = xword xs ||| (b.setWidth 64) <<< (8 * xs.length) := by
  induction xs with
  | nil => simp [xword]
  | cons x xs ih =>
    simp only [List.length_cons] at h
    rw [List.cons_append, xword, ih (by omega), xword, BitVec.shiftLeft_or_distrib, ← BitVec.or_assoc]
    congr 1
    rw [List.length_cons, show 8 * (xs.length + 1) = 8 * xs.length + 8 by omega, BitVec.shiftLeft_add]
set_option maxRecDepth 100000 in
set_option maxHeartbeats 1000000 in
theorem oct_RWord_ok {xs : List Byte} {base g k : Nat} {w : World} (h : Rdr w base g xs k 0) (n : Nat) (hn8 : n = 2 ∨ n = 4 ∨ n = 8) (hn : k + n ≤ xs.length) (hl : xs.length ≤ 100000000000000) :
    Calls Tryd.prog 49 #[.pointer (some ⟨g, 0, none⟩), .int .i64 (n : Int)] w fun e w' => e = .returned (.int .u64 (nb (xword ((xs.drop k).take n)))) ∧ Rdr w' base g xs (k + n) 0 ∧ TB g w w' := by
  have H := Lib.hid h
  have hlen : ((xs.drop k).take n).length = n := by rw [List.length_take, List.length_drop]; omega
  have HLEN := Lib.hid hlen
  have hn9 : n ≤ 8 := by omega
  clear h hlen
  have hb : (((n : Int) == 2) = true ∨ (((n : Int) == 2) = false ∧ ((n : Int) == 4) = true) ∨ (((n : Int) == 2) = false ∧ ((n : Int) == 4) = false ∧ ((n : Int) == 8) = true)) := by
    rcases hn8 with rfl | rfl | rfl <;> simp
  clear hn8
  rcases hb with h1 | ⟨h1, h2⟩ | ⟨h1, h2, h3⟩
  all_goals
    go_enter Tryd.func49, Tryd.ntmps49
    go_wp2_with fail
    refine (oct_ready H.out).mono ?_
    rintro e w1 ⟨rfl, rfl⟩
    go_wp2_with fail
    refine (oct_Fixed_ok H.out (n : Int) n (by omega) hn hl).mono ?_
    rintro e w1 ⟨v, rfl, ho, hr, ht⟩
    obtain ⟨A, c, rfl, hc, hcm, hrd, -⟩ := Own.form ho
    rw [HLEN.out]
    have HRD := Lib.hid hrd
    have HR1 := Lib.hid hr
    have HT1 := Lib.hid ht
    clear ho hr ht hrd hc hcm
    go_wp2
    go_loop [5, 6, 7, 22] (fun s _ _ i => ∃ j : Nat, j ≤ n ∧ i = .int .i64 j ∧ s = .int .u64 (nb (xword (((xs.drop k).take n).take j)))) (fun _ _ _ i => n - (intOf i).toNat)
    case atStart => exact ⟨0, by omega, rfl, by simp [xword, nb_zero]⟩
    case round =>
      obtain ⟨j, hj, rfl, rfl⟩ := hrel
      by_cases hlt : j < n
      · obtain ⟨b0, o0, rfl, hb0, hcell⟩ := HRD.out.form (by rw [HLEN.out]; omega)
        have hc := hcell j (by rw [HLEN.out]; exact hlt)
        have HS := Lib.hid (show xword (((xs.drop k).take n).take (j + 1)) = xword (((xs.drop k).take n).take j) ||| ((((xs.drop k).take n)[j]'(by rw [HLEN.out]; exact hlt)).setWidth 64) <<< (8 * j) by
          rw [List.take_succ_eq_append_getElem (by rw [HLEN.out]; exact hlt), xword_snoc _ _ (by rw [List.length_take]; omega), show (((xs.drop k).take n).take j).length = j by rw [List.length_take, HLEN.out, Nat.min_eq_left hj]])
        clear hcell
        generalize ((xs.drop k).take n)[j]'(by rw [HLEN.out]; exact hlt) = y at *
        generalize xword (((xs.drop k).take n).take j) = s at *
        have hsh : IntKind.u64.wrap (nb y * 2 ^ (8 * j)) = nb (y.setWidth 64 <<< (8 * j)) := by rw [← wrap_shl, nb_setWidth y (by omega)]
        have hor := bits_or64 s (y.setWidth 64 <<< (8 * j)) (Nat.le_refl _) (Nat.le_refl _)
        rw [BitVec.setWidth_eq, BitVec.setWidth_eq] at hor
        unfold vb at hc
        have hwy : IntKind.u64.wrap (nb y) = nb y := by rw [wrap_u64]; exact Int.emod_eq_of_lt (nb_nonneg _) (by have := nb_lt8 y; omega)
        go_wp2
        go_round
        case rel => exact ⟨j + 1, by omega, by go_num, by rw [HS.out, ← hor, ← hsh]⟩
        case measure => simp [intOf]; omega
      · obtain rfl : j = n := by omega
        go_wp2
        go_ret
        refine ⟨?_, HR1.out, HT1.out⟩
        have : (((xs.drop k).take j).take j) = (xs.drop k).take j := List.take_of_length_le (by rw [HLEN.out]; omega)
        rw [this]
        rfl
end Go.Proofs.YtoidlmhebnlnbaaDoor
/- Strings: bytes as a string, a string as bytes. -/
set_option linter.unusedVariables false
set_option linter.unusedSimpArgs false
namespace Go.Proofs.YtoidlmhebnlnbaaDoor
open Go.ChangeShapes Go.WideShapes Go.ChangeAt Go.RowKit

/-- These bytes as a string. A plain definition. -/
def sb (xs : List Byte) : ByteArray := ⟨(xs.map UInt8.ofBitVec).toArray⟩
theorem sb_size (xs : List Byte) : (sb xs).size = xs.length := by simp [sb, ByteArray.size]
theorem sb_inj {xs ys : List Byte} : sb xs = sb ys ↔ xs = ys := by
  constructor
  · intro h
    simp only [sb, ByteArray.mk.injEq] at h
    have h := congrArg Array.toList h
    simp only [List.toList_toArray] at h
    exact (List.map_inj_right (fun a b e => by cases e; rfl)).1 h
  · rintro rfl; rfl
theorem bytes_toList_inj {a b : ByteArray} (h : a.toList = b.toList) : a = b := by
  rw [ByteArray.toList_eq, ByteArray.toList_eq] at h
  have h2 := Array.toList_inj.1 h
  cases a; cases b; exact congrArg _ h2
theorem sb_beq (xs ys : List Byte) : ((sb xs).toList == (sb ys).toList) = (xs == ys) := by
  rw [Bool.eq_iff_iff]
  simp only [beq_iff_eq]
  exact ⟨fun h => sb_inj.1 (bytes_toList_inj h), fun h => by rw [h]⟩

theorem run_string {w : World} {A : Option Addr} {xs : List Byte} (c : Nat) (hr : Rd w A xs) : (convert 27 9 (.slice A xs.length c)).run Tryd.prog w = .ok (.string (sb xs)) w := by
  cases A with
  | none =>
    have hx : xs = [] := by
      cases xs with
      | nil => rfl
      | cons y ys => obtain ⟨b, o, e, _⟩ := hr 0 (by simp [vbs]); cases e
    subst hx
    exact Lib.run_convert_nil_bytes w 27 9 5 c Tryd.underlying27 Tryd.underlying5 Tryd.underlying9
  | some ad =>
    have h := run_convert_bytes_back (P := Tryd.prog) w 27 9 5 ad c (xs.map UInt8.ofBitVec) Tryd.underlying27 Tryd.underlying5 Tryd.underlying9 (fun j hj => by
      rw [List.length_map] at hj
      have := RdV.adds hr j (vb xs[j]) (by rw [vbs_get? xs j hj])
      rw [this]
      simp [vb, nb])
    rw [List.length_map] at h
    exact h
theorem run_bytes (w : World) (xs : List Byte) (hl : xs.length ≤ maxLen) : ∃ c W', (convert 9 27 (.string (sb xs))).run Tryd.prog w = .ok (.slice (some ⟨w.heap.size, 0, none⟩) xs.length c) W' ∧ Rd W' (some ⟨w.heap.size, 0, none⟩) xs ∧ FB w W' ∧ xs.length ≤ c ∧ c ≤ maxLen := by
  have h := run_bytes_of_string (P := Tryd.prog) w 9 27 5 (sb xs) Tryd.underlying9 Tryd.underlying27 Tryd.underlying5
  rw [sb_size] at h
  refine ⟨_, _, h, ?_, ((FB.refl w).drew).alloc _, grownCap_ge w _ _ _, grownCap_le_maxLen w _ 0 _ (by rw [maxLen_eq] at hl; rw [maxLen_eq]; omega)⟩
  intro i hi
  rw [vbs_length] at hi
  refine ⟨w.heap.size, 0, rfl, ?_⟩
  have hnew := heap_alloc_new w.drew (.cells (bytesRow (sb xs) (grownCap w xs.length 0 5)) 5 ((bytesRow (sb xs) (grownCap w xs.length 0 5)).size, (bytesRow (sb xs) (grownCap w xs.length 0 5)).size + 1))
  rw [cell_of_row _ w.heap.size _ _ _ _ hnew]
  rw [vbs_get xs i hi]
  unfold bytesRow
  rw [Nat.zero_add, Array.getElem?_append_left (by simp [sb, hi])]
  simp [sb, hi, vb, nb]
end Go.Proofs.YtoidlmhebnlnbaaDoor
/- page: what the walks use. -/
set_option linter.unusedVariables false
set_option linter.unusedSimpArgs false
namespace Go.Proofs.YtoidlmhebnlnbaaDoor
open Go.ChangeShapes Go.WideShapes Go.ChangeAt Go.RowKit
attribute [local go_sem] nb_nonneg nb_lt8 nb_lt64
set_option maxRecDepth 100000

theorem results_cell2 {P : Program} {fn : Func} {a : Tmp} {ty : TypeId} {u : Tmp} (h : fn.results = #[.cell a ty, .tmp u]) (tmps : Array Value) (g : Nat) (hg : tmps.getD a undef = .pointer (some ⟨g, 0, none⟩)) (w : World) (v : Value)
    (hl : (loadVar ty ⟨g, 0, none⟩).run P w = .ok v w) : (results fn tmps).run P w = .ok (.tuple #[v, tmps.getD u undef]) w := by
  have hg' : tmps[a]?.getD undef = .pointer (some ⟨g, 0, none⟩) := by simpa using hg
  simp [results, h, hg', asAddr, hl]
theorem FB.setRow {w0 w : World} (h : FB w0 w) {g : Nat} (hg : w0.heap.size ≤ g) (cs : Array Value) : FB w0 (w.setRow g cs) := below_setRow h hg cs
theorem TB.setRow (g : Nat) (w : World) (cs : Array Value) : TB g w (w.setRow g cs) := ⟨rfl, rfl, rfl, by simp, fun k _ hk => setRow_other w g k cs (fun e => hk (by simp [e]))⟩
theorem row2 {W : World} {g : Nat} {a b : Value} {t : TypeId} {fr : Nat × Nat} (h : W.heap[g]? = some (.cells #[a, b] t fr)) : W.cell? ⟨g, 0, none⟩ = some a ∧ W.cell? ⟨g, 1, none⟩ = some b := by
  refine ⟨?_, ?_⟩ <;> (rw [cell_of_row _ _ _ _ _ _ h]; rfl)
theorem prow3 {W : World} {g : Nat} {a b c : Value} {t : TypeId} {fr : Nat × Nat} (h : W.heap[g]? = some (.cells #[a, b, c] t fr)) : W.cell? ⟨g, 0, none⟩ = some a ∧ W.cell? ⟨g, 1, none⟩ = some b ∧ W.cell? ⟨g, 2, none⟩ = some c := by
  refine ⟨?_, ?_, ?_⟩ <;> (rw [cell_of_row _ _ _ _ _ _ h]; rfl)
theorem OwnV.head0 {e : TypeId} {w : World} {base n : Nat} {A : Option Addr} {c : Nat} {vs : List Value} (h : OwnV e w base (.slice A n c) vs) (hn : 0 < vs.length) : ∃ g, A = some ⟨g, 0, none⟩ ∧ base ≤ g ∧ g < w.heap.size := by
  rcases h.2 with ⟨h', h0⟩ | ⟨g, cap, cur, h', hb, hg, _⟩
  · omega
  · simp only [Value.slice.injEq] at h'
    exact ⟨g, h'.1, hb, (Array.getElem?_eq_some_iff.1 hg).1⟩
theorem bl_cell {N : Nat} {w W : World} {a : Addr} {v : Value} (h : Below N w W) (hc : w.cell? a = some v) (ha : a.block < N) : W.cell? a = some v := (Below.cell h ha).trans hc
theorem ts_grownC {g : Nat} {w w' : World} {o : Option Nat} (h : w.grownBy w' o) : TS (g :: o.toList) w w' :=
  ⟨h.os, h.tape, h.output, h.size, fun k hk hn => h.block k hk (fun e => hn (by rw [← e]; simp))⟩
theorem sch_storeR {P : Program} {ops : Array Oper} {Q : Exit → Act → World → Prop} {E : World → World → Prop} {i : Nat} {σ : List (Nat × Bool)} {o : Oper} {a : Act} {w w' : World} (hi : ops[i]? = some o) (hw : Region.wanted o (yielded ops a.tmps) = true) (ty : TypeId) (x y : Operand) (ho : o.op = .store ty x y) (hd : o.dst = none)
    (vx v : Value) (hx : a.eval x = vx) (hy : a.eval y = v) (hr : (Instr.storeAt ty vx v).run P w = .ok () w') (hE : E w w') (h : wpSch P ops Q E σ a w') : wpSch P ops Q E ((i, false) :: σ) a w := by
  refine sch_eff hi hw fun K hK => ?_
  unfold Oper.wp execOp
  simp only [ho, Sem.run_bind, Sem.run_pure, Result.andThen_ok, hx, hy, hr]
  refine hK _ _ hE ?_
  rw [hd]; exact h
/-- A page, as a value. -/
def pgV (K : Int) (n : BitVec 32) (A : Option Addr) (l c : Nat) : Value := .agg #[.int .i64 K, .int .u32 (nb n), .slice A l c]
theorem pg_load {w : World} {g : Nat} {x y z : Value} (hw : w.heap[g]? = some (.cells #[x, y, z] 45 (0, 0))) : (loadVar 45 ⟨g, 0, none⟩).run Tryd.prog w = .ok (.agg #[x, y, z]) w :=
  run_loadVar_row w g _ _ _ _ _ hw Tryd.underlying45 rfl (by kernel_rfl)
theorem pg_ret {fn : Func} {a : Tmp} {u : Tmp} (h : fn.results = #[.cell a 45, .tmp u]) (tmps : Array Value) (g : Nat) (hg : tmps.getD a undef = .pointer (some ⟨g, 0, none⟩)) (w : World) {x y z : Value}
    (hw : w.heap[g]? = some (.cells #[x, y, z] 45 (0, 0))) : (results fn tmps).run Tryd.prog w = .ok (.tuple #[.agg #[x, y, z], tmps.getD u undef]) w :=
  results_cell2 h tmps g hg w _ (pg_load hw)
theorem pg_store {W : World} {g : Nat} {a b c : Value} (x y z : Value) (h : W.heap[g]? = some (.cells #[a, b, c] 45 (0, 0))) (h1 : (#[x, y, z]).all (·.oneCell') = true) :
    (Instr.storeAt 45 (.pointer (some ⟨g, 0, none⟩)) (.agg #[x, y, z])).run Tryd.prog W = .ok () (W.setRow g #[x, y, z]) := by
  simp only [Instr.storeAt, Instr.sureAddr, Sem.run_bind, Sem.run_pure, Result.andThen]
  exact run_storeVar_row W g _ _ _ _ h (by kernel_rfl) rfl h1
set_option maxHeartbeats 400000 in
theorem by_Equal (xs ys : List Byte) (A B : Option Addr) (ca cb : Nat) (w : World) (ha : Rd w A xs) (hb : Rd w B ys) :
    Calls Tryd.prog 60 #[.slice A xs.length ca, .slice B ys.length cb] w fun e w' => e = .returned (.bool (decide (xs = ys))) ∧ w = w' := by
  have hs1 := run_string ca ha
  have hs2 := run_string cb hb
  by_cases h : xs = ys
  · have hse : ((sb xs).toList == (sb ys).toList) = true := by rw [sb_beq]; simpa using h
    have HD := Lib.hid (decide_eq_true h)
    clear ha hb h
    go_enter Tryd.func60, Tryd.ntmps60
    go_wp2
    go_ret
    exact ⟨by rw [HD.out]; rfl, rfl⟩
  · have hse : ((sb xs).toList == (sb ys).toList) = false := by rw [sb_beq]; simpa using h
    have HD := Lib.hid (decide_eq_false h)
    clear ha hb h
    go_enter Tryd.func60, Tryd.ntmps60
    go_wp2
    go_ret
    exact ⟨by rw [HD.out]; rfl, rfl⟩
set_option maxHeartbeats 400000 in
theorem by_trimB (xs : List Byte) (A : Option Addr) (c : Nat) (w : World) (hx : xs.length ≤ 1000000000) (hc : xs.length ≤ c) (hm : c ≤ maxLen) (hr : Rd w A xs) :
    Calls Tryd.prog 64 #[.slice A xs.length c, .int .u8 0] w fun e w' => e = .returned (.slice A (trimz xs).length c) ∧ w = w' := by
  have HR := Lib.hid hr
  have HX := Lib.hid hx
  have HC := Lib.hid hc
  have hcm : (c : Int) ≤ 9223372036854775807 := by unfold maxLen at hm; omega
  clear hr hm hx hc
  go_enter Tryd.func64, Tryd.ntmps64
  go_wp2_with fail
  go_loop [0] (fun s => ∃ k : Nat, k ≤ xs.length ∧ s = .slice A k c ∧ Hid (trimz (xs.take k) = trimz xs)) (fun s => match s with | .slice _ k _ => k | _ => 0)
  case atStart => exact ⟨xs.length, Nat.le_refl _, rfl, Lib.hid (by rw [List.take_length])⟩
  case round =>
    obtain ⟨k, hk, rfl, HT⟩ := hrel
    cases k with
    | zero =>
      have HZ := Lib.hid (show trimz xs = [] from by rw [← HT.out]; rfl)
      go_wp2
      go_ret
      exact ⟨by rw [HZ.out]; rfl, rfl⟩
    | succ k =>
      obtain ⟨b, o, rfl, -, hcs⟩ := HR.out.form (by omega)
      have hcell := hcs k (by omega)
      obtain ⟨x, hx⟩ : ∃ x, x = xs[k] := ⟨_, rfl⟩
      have HTS := Lib.hid (show xs.take (k + 1) = xs.take k ++ [x] from by rw [hx, List.take_succ_eq_append_getElem])
      rw [← hx] at hcell
      unfold vb at hcell
      have hkz : ((k + 1 : Nat) : Int) = (k : Int) + 1 := by omega
      have hk0 : (0 : Int) < (k : Int) + 1 := by omega
      have hwk : IntKind.i64.wrap (k : Int) = (k : Int) := by rw [IntKind.wrap_i64]; have := HX.out; omega
      have hkc : (k : Int) ≤ (c : Int) := by have := HC.out; omega
      have hkl : (k : Int) < (k : Int) + 1 := by omega
      have HK := Lib.hid hk
      clear hcs hx hk
      by_cases h0 : x = 0#8
      · have hb : (nb x == 0) = true := by rw [h0]; rfl
        have HT2 := Lib.hid (show trimz (xs.take k) = trimz xs from by rw [← HT.out, HTS.out, h0, trimz_zero])
        clear h0
        go_wp2
        go_round
        case rel => exact ⟨k, by have := HK.out; omega, rfl, HT2.out⟩
        case measure => simp
      · have hb : (nb x == 0) = false := by rw [nb_beq0]; simpa using h0
        have HT2 := Lib.hid (show (trimz xs).length = k + 1 from by rw [← HT.out, HTS.out, trimz_other _ h0]; have := HK.out; simp; omega)
        clear h0
        go_wp2
        go_ret
        exact ⟨by rw [HT2.out]; rfl, rfl⟩
end Go.Proofs.YtoidlmhebnlnbaaDoor
/- page: the walk through crcOf. -/
set_option linter.unusedVariables false
set_option linter.unusedSimpArgs false
namespace Go.Proofs.YtoidlmhebnlnbaaDoor
open Go.ChangeShapes Go.WideShapes Go.ChangeAt Go.RowKit
attribute [local go_sem] nb_nonneg nb_lt8 nb_lt64
set_option maxRecDepth 100000

theorem crc_three (a b c : List Byte) : crcOns crcT [a, b, c] = crcSum (a ++ (b ++ c)) := by
  unfold crcOns crcSum
  simp only [List.foldl_cons, List.foldl_nil, crcOn_append, List.append_assoc]
set_option maxHeartbeats 1000000 in
theorem pg_crcOf (b : List Byte) (bb bo c : Nat) (w : World) (hl : b.length = 4096) (hc : 4096 ≤ c) (hm : c ≤ maxLen) (hr : Rd w (some ⟨bb, bo, none⟩) b) :
    Calls Tryd.prog 44 #[.slice (some ⟨bb, bo, none⟩) 4096 c] w fun e w' => e = .returned (.int .u32 (nb (crcSum (b.take 12 ++ (z4 ++ b.drop 16))))) ∧ FB w w' := by
  have HR := Lib.hid hr
  have HL := Lib.hid hl
  have HM := Lib.hid hm
  have hcm : (c : Int) ≤ 9223372036854775807 := by unfold maxLen at hm; omega
  have hcz : (4096 : Int) ≤ (c : Int) := by omega
  have hc2 : (16 : Int) ≤ (c : Int) := by omega
  have hc3 : (12 : Int) ≤ (c : Int) := by omega
  have hc4 : 16 < c := by omega
  have hc5 : ¬ c = 16 := by omega
  obtain ⟨C, hmk, hC⟩ := mk_bytes 4 4 rfl (by omega)
  have HC := Lib.hid hC
  have HCC := Lib.hid hc
  clear hr hl hm hC hc
  go_enter Tryd.func44, Tryd.ntmps44
  go_wp2_with fail
  obtain ⟨W0, hW0⟩ : ∃ W0 : World, W0 = w := ⟨_, rfl⟩
  rw [← hW0]
  refine region_sch (E := FB) ((0, true) :: (1, true) :: (3, true) :: (4, true) :: (2, false) :: (5, false) :: (6, false) :: (7, true) :: []) (by kernel_rfl) FB.refl fb_trans (fun _ _ d _ _ h => by cases d <;> exact h) (by kernel_rfl) ?_
  intro ops hops0
  have hops := Lib.hid hops0
  clear hops0
  have HF : FB W0 W0.drew := (FB.refl _).drew
  generalize W0.drew = wF at *
  have HFq := Lib.hid (show FB w wF from by rw [← hW0]; exact HF)
  clear hW0 HF
  have HF := FB.refl wF
  repeat (refine sch_take (o := ?_) (v := ?_) (a' := ?_) (at_of hops.out ?_) ?_ (fun W hW => ?_) ?_ ?_; rotate_left 3; (focus (simp only [List.getElem?_toArray, List.getElem?_cons_zero, List.getElem?_cons_succ]; rfl)); (focus (rw [hops.out]; rfl)); (focus (go_simp; with_reducible rfl)); (focus (simp only [Act.put, List.setIfInBounds_toArray, List.set_cons_zero, List.set_cons_succ]; rfl)))
  (refine sch_run (o := ?_) (v := ?_) (a' := ?_) (w' := ?_) (at_of hops.out ?_) ?_ ?_ ?_ ?_ ?_; rotate_left 4; (focus (simp only [List.getElem?_toArray, List.getElem?_cons_zero, List.getElem?_cons_succ]; rfl)); (focus (rw [hops.out]; rfl)); (focus (go_simp; constructor <;> with_reducible rfl)); (focus (exact (FB.refl _).alloc _)); (focus (simp only [Act.put, List.setIfInBounds_toArray, List.set_cons_zero, List.set_cons_succ]; rfl)))
  (refine sch_run (o := ?_) (v := ?_) (a' := ?_) (w' := ?_) (at_of hops.out ?_) ?_ ?_ ?_ ?_ ?_; rotate_left 4; (focus (simp only [List.getElem?_toArray, List.getElem?_cons_zero, List.getElem?_cons_succ]; rfl)); (focus (rw [hops.out]; rfl)); (focus (go_simp; constructor <;> with_reducible rfl)); (focus (exact (FB.refl _).alloc _)); (focus (simp only [Act.put, List.setIfInBounds_toArray, List.set_cons_zero, List.set_cons_succ]; rfl)))
  have hb1 := (HFq.out.alloc (.cells C 5)).rd HR.out
  have hz : Rd (wF.alloc (.cells C 5)) (some ⟨wF.heap.size, 0, none⟩) z4 := by
    have := RdV.lit wF (vbs (List.replicate 4 0#8)) 5 rfl
    rw [← HC.out] at this
    exact this
  have hrl := RdL.lit (w := wF.alloc (.cells C 5)) (ls := [b.take 12, z4, b.drop 16]) (vs := [.slice (some ⟨bb, bo, none⟩) 12 c, .slice (some ⟨wF.heap.size, 0, none⟩) 4 4, .slice (some ⟨bb, bo + 16, none⟩) 4080 (c - 16)]) (t := 27) rfl (fun i hi => by
    have := HL.out
    have h1 := HCC.out
    have h2 := HM.out
    match i, hi with
    | 0, _ => exact ⟨some ⟨bb, bo, none⟩, c, by simp [HL.out], by simp; omega, h2, hb1.take 12⟩
    | 1, _ => exact ⟨some ⟨wF.heap.size, 0, none⟩, 4, by simp [z4], by simp [z4], by simp [maxLen], hz⟩
    | 2, _ => exact ⟨some ⟨bb, bo + 16, none⟩, c - 16, by simp [HL.out], by simp [HL.out]; omega, by omega, hb1.drop 16⟩)
  have hcall := (crc_Parts [b.take 12, z4, b.drop 16] (some ⟨(wF.alloc (.cells C 5)).heap.size, 0, none⟩) 3 _ (by simp) (by simp [maxLen]) hrl).mono (fun e w' h => And.intro h.1 (show FB _ w' from h.2))
  replace HF := (HF.alloc (.cells C 5)).alloc (.cells #[.slice (some ⟨bb, bo, none⟩) 12 c, .slice (some ⟨wF.heap.size, 0, none⟩) 4 4, .slice (some ⟨bb, bo + 16, none⟩) 4080 (c - 16)] 27)
  rw [crc_three] at hcall
  simp only [World.size_alloc, List.length_cons, List.length_nil, Nat.zero_add, Nat.reduceAdd] at hcall
  have HCL := Lib.hid hcall
  clear hb1 hz hrl hcall hmk
  (refine sch_call (o := ?_) (f := ?_) (args := ?_) (at_of hops.out ?_) ?_ ?_ ?_; rotate_left 3; (focus (simp only [List.getElem?_toArray, List.getElem?_cons_zero, List.getElem?_cons_succ]; rfl)); (focus (rw [hops.out]; rfl)); (focus (go_simp; constructor <;> with_reducible rfl)); (first | ((with_reducible refine (HCL.out).mono ?_); rintro e w' ⟨rfl, hb⟩; refine ⟨_, rfl, hb, ?_⟩; intro a' ha'; simp only [Act.put, List.setIfInBounds_toArray, List.set_cons_zero, List.set_cons_succ] at ha'; subst ha'; replace HF := HF.call hb; clear hb)))
  repeat (refine sch_take (o := ?_) (v := ?_) (a' := ?_) (at_of hops.out ?_) ?_ (fun W hW => ?_) ?_ ?_; rotate_left 3; (focus (simp only [List.getElem?_toArray, List.getElem?_cons_zero, List.getElem?_cons_succ]; rfl)); (focus (rw [hops.out]; rfl)); (focus (go_simp; with_reducible rfl)); (focus (simp only [Act.put, List.setIfInBounds_toArray, List.set_cons_zero, List.set_cons_succ]; rfl)))
  refine sch_done ?_
  have HE := Lib.hid (HFq.out.trans HF)
  clear hops HF
  go_wp2
  go_ret
  exact ⟨rfl, HE.out⟩
end Go.Proofs.YtoidlmhebnlnbaaDoor
/- append(b, make([]byte, n)...): noughts behind a row of the call's own. -/
set_option linter.unusedVariables false
set_option linter.unusedSimpArgs false
namespace Go.Proofs.YtoidlmhebnlnbaaDoor
open Go.ChangeShapes Go.WideShapes Go.ChangeAt Go.RowKit

theorem zeroCells_list (z : Value) (h : z.cells = #[z]) (n : Nat) : (Builtin.zeroCells z.cells n).toList = List.replicate n z := by
  rw [h]
  have : Builtin.zeroCells #[z] n = madeCells #[z] n := by simp [Builtin.zeroCells, madeCells]
  rw [this, toList_madeCells_one]
theorem run_append_zeros_room {P : Program} (w : World) (t tn ty e : TypeId) (i : TypeInfo) (z : Value) (kn : IntKind) (ht : P.underlying t = some (.slice e)) (htn : P.underlying tn = some (.int kn)) (hi : P.info? e = some i) (hz : i.zero = some z) (hs1 : i.size = 1) (hb1 : i.bytes = 1) (hzc : z.cells = #[z]) (hz1 : z.oneCell' = true)
    (g sLen sCap : Nat) (cur : Array Value) (hg : w.heap[g]? = some (.cells cur e (0, 0))) (n : Nat) (h0 : 0 < n) (hn : n ≤ 1000000000)
    (hroom : sLen + n ≤ sCap) (hfit : sLen + n ≤ cur.size) :
    (Builtin.append_ #[t, tn] ty #[.slice (some ⟨g, 0, none⟩) sLen sCap, .int .i64 (n : Int)]).run P w =
      .ok (.slice (some ⟨g, 0, none⟩) (sLen + n) sCap) (w.setRow g (cur.toList.take sLen ++ List.replicate n z ++ cur.toList.drop (sLen + n)).toArray) := by
  have hw : IntKind.i64.wrap (n : Int) = n := by rw [IntKind.wrap_i64]; omega
  have hneg : ¬ ((n : Int) < 0) := by omega
  have h48 : ¬ (281474976710656 < (n : Int)) := by omega
  have hn0 : ¬ n = 0 := by omega
  have hst := run_storeCells_at P g sLen e (List.replicate n z) 0 cur w hg (by simpa using hfit) (fun u hu => by rw [List.eq_of_mem_replicate hu]; exact hz1)
  simp only [Nat.add_zero, List.length_replicate] at hst
  have hzl := zeroCells_list z hzc n
  simp [Builtin.append_, run_underlying ht, run_underlying htn, sizeOf, typeInfo, zeroValue, hi, hz, hs1, hb1, asInt, asIntOf, hw, hneg, h48, hn0, hroom, Addr.add_lit, hzl, hst]
theorem run_append_zeros_grow {P : Program} (w : World) (t tn ty e : TypeId) (i : TypeInfo) (z : Value) (kn : IntKind) (ht : P.underlying t = some (.slice e)) (htn : P.underlying tn = some (.int kn)) (hi : P.info? e = some i) (hz : i.zero = some z) (hs1 : i.size = 1) (hb1 : i.bytes = 1) (hzc : z.cells = #[z])
    (b : Addr) (sLen sCap : Nat) (olds : List Value) (hlo : olds.length = sLen) (holds : ∀ j v, olds[j]? = some v → w.cell? (b.add j) = some v) (n : Nat) (h0 : 0 < n) (hn : sLen + n ≤ 1000000000)
    (hg : sCap < sLen + n) (hfit : Builtin.nextslicecap (sLen + n) sCap ≤ 281474976710656) :
    (Builtin.append_ #[t, tn] ty #[.slice (some b) sLen sCap, .int .i64 (n : Int)]).run P w =
      .ok (.slice (some ⟨w.heap.size, 0, none⟩) (sLen + n) (grownCap w (sLen + n) sCap e))
        (w.drew.alloc (.cells (olds.toArray ++ (List.replicate n z).toArray ++ Builtin.zeroCells z.cells (grownCap w (sLen + n) sCap e - (sLen + n))) e)) := by
  have hw : IntKind.i64.wrap (n : Int) = n := by rw [IntKind.wrap_i64]; omega
  have hneg : ¬ ((n : Int) < 0) := by omega
  have h48 : ¬ (281474976710656 < (n : Int)) := by omega
  have hn0 : ¬ n = 0 := by omega
  have hnr : ¬ (sLen + n ≤ sCap) := by omega
  have h63' : ¬ (9223372036854775807 < ((sLen : Int) + (n : Int))) := by omega
  have h48' : ¬ (281474976710656 < Builtin.nextslicecap (sLen + n) sCap) := by omega
  have hfo := run_firstCells_some (P := P) w.drew 1 sLen b sLen sCap olds (by simpa using hlo) (by simpa using holds)
  have hzl : Builtin.zeroCells z.cells n = (List.replicate n z).toArray := Array.ext' (by rw [zeroCells_list z hzc n])
  simp [Builtin.append_, run_underlying ht, run_underlying htn, sizeOf, typeInfo, zeroValue, hi, hz, hs1, hb1, asInt, asIntOf, hw, hneg, h48, hn0, hnr, h63', h48', Question.forced, hfo, newRow, grownCap, hzl]
/-- Noughts behind a row of the call's own. -/
theorem run_append_zeros (w : World) (base : Nat) (v : Value) (xs : List Byte) (hown : Own w base v xs) (hx : 0 < xs.length) (n : Nat) (h0 : 0 < n) (hlen : xs.length + n ≤ 1000000000) (hbase : base ≤ w.heap.size) :
    ∃ v' w', (∀ ty, (Builtin.append_ #[27, 3] ty #[v, .int .i64 (n : Int)]).run Tryd.prog w = .ok v' w') ∧ Own w' base v' (xs ++ List.replicate n 0#8) ∧ w.grownBy w' v.ownBlock := by
  obtain ⟨i, hi, hz, hsz, hby⟩ := info_parts info_u8
  have hl2 : (vbs xs ++ List.replicate n (Value.int .u8 0)).length = xs.length + n := by simp [vbs_length]
  have hv : vbs (xs ++ List.replicate n 0#8) = vbs xs ++ List.replicate n (Value.int .u8 0) := by rw [vbs_append, vbs_zeros]
  unfold Own OwnV at hown ⊢
  rw [hv, hl2]
  rw [vbs_length] at hown
  have hxl : (vbs xs).length = xs.length := vbs_length xs
  rcases hown.2 with ⟨rfl, hz0⟩ | ⟨g, cap, cur, rfl, hbg, hg, hnc, hcm, hcs, htake⟩
  · omega
  · have hcs' : cur.size = cap := by simpa using hcs
    have ht' : cur.toList.take xs.length = vbs xs := by simpa using htake
    by_cases hroom : xs.length + n ≤ cap
    · have hr := fun ty => run_append_zeros_room (P := Tryd.prog) w 27 3 ty 5 i _ .i64 Tryd.underlying27 Tryd.underlying3 hi hz hsz hby rfl rfl g xs.length cap cur hg n h0 (by omega) hroom (by omega)
      refine ⟨_, _, hr, ⟨by rw [hl2]; omega, .inr ⟨g, cap, _, rfl, hbg, setRow_heap w g cur _ _ _ hg, hroom, hcm, ?_, ?_⟩⟩, ⟨rfl, rfl, rfl, by simp, fun k _ hk => setRow_other w g k _ (fun e => hk (by simp [Value.ownBlock, e]))⟩⟩
      · simp only [List.size_toArray, List.length_append, List.length_take, List.length_drop, Array.length_toList, List.length_replicate]
        omega
      · rw [ht']
        have : (xs.length + n) * 1 = (vbs xs ++ List.replicate n (Value.int .u8 0)).length := by rw [hl2]; omega
        rw [this]
        exact List.take_left
    · have holds : ∀ j u, (vbs xs)[j]? = some u → w.cell? ((⟨g, 0, none⟩ : Addr).add j) = some u := hown.cells (g := g) rfl
      have hr := fun ty => run_append_zeros_grow (P := Tryd.prog) w 27 3 ty 5 i _ .i64 Tryd.underlying27 Tryd.underlying3 hi hz hsz hby rfl ⟨g, 0, none⟩ xs.length cap (vbs xs) hxl holds n h0 hlen (by omega) (by have := growslice_fits (need := xs.length + n) (old := cap) (bytes := 1) (by omega) (by omega); omega)
      have hge := grownCap_ge w (xs.length + n) cap 5
      have hcm2 : grownCap w (xs.length + n) cap 5 ≤ maxLen := grownCap_le_maxLen w (xs.length + n) cap 5 (by simp [maxLen]; omega)
      refine ⟨_, _, hr, ⟨by rw [hl2]; omega, .inr ⟨w.heap.size, _, _, rfl, hbase, heap_alloc_new w.drew _, hge, hcm2, ?_, ?_⟩⟩, ⟨rfl, rfl, rfl, by simp, fun k hk _ => ((FB.refl w.drew).alloc _).block k hk⟩⟩
      · simp only [Array.size_append, List.size_toArray, size_zeroCells, hxl, List.length_replicate]
        have : (Value.int IntKind.u8 0).cells.size = 1 := rfl
        rw [this]; omega
      · simp only [Array.toList_append, List.append_assoc]
        rw [← List.append_assoc]
        have : (xs.length + n) * 1 = (vbs xs ++ List.replicate n (Value.int .u8 0)).length := by rw [hl2]; omega
        rw [this]
        exact List.take_left
end Go.Proofs.YtoidlmhebnlnbaaDoor
/- page: the walk through Bytes. -/
set_option linter.unusedVariables false
set_option linter.unusedSimpArgs false
namespace Go.Proofs.YtoidlmhebnlnbaaDoor
open Go.ChangeShapes Go.WideShapes Go.ChangeAt Go.RowKit
attribute [local go_sem] nb_nonneg nb_lt8 nb_lt64
set_option maxRecDepth 100000

def hd8 (k : Byte) (n : BitVec 32) : List Byte := [0x54#8, 0x4d#8, 1#8, k] ++ oword 4 (n.setWidth 64)
theorem hd8_len (k : Byte) (n : BitVec 32) : (hd8 k n).length = 8 := by simp [hd8, oword_len]
theorem pgHd_hd8 (k : Byte) (n : BitVec 32) : pgHd k n = hd8 k n ++ z4 := rfl
def pgB1 (k : Byte) (n : BitVec 32) (x : List Byte) : List Byte := pgHd k n ++ (z4 ++ pgPad x)
theorem pgB1_len (k : Byte) (n : BitVec 32) {x : List Byte} (h : x.length ≤ 4080) : (pgB1 k n x).length = 4096 := by simp [pgB1, pgHd_len, z4, pgPad_len h]
theorem rep_z4 (m : Nat) : List.replicate (m + 4) 0#8 = z4 ++ List.replicate m 0#8 := by
  rw [Nat.add_comm, ← List.replicate_append_replicate]; rfl
theorem pg_splice1 (k : Byte) (n : BitVec 32) {x : List Byte} (h : x.length ≤ 4080) : splice (hd8 k n ++ List.replicate 4088 0#8) 16 x = pgB1 k n x := by
  have e : hd8 k n ++ List.replicate 4088 0#8 = (hd8 k n ++ (z4 ++ z4)) ++ List.replicate 4080 0#8 := by
    rw [show 4088 = (4080 + 4) + 4 from rfl, rep_z4, rep_z4]; simp only [List.append_assoc]
  have l16 : (hd8 k n ++ (z4 ++ z4)).length = 16 := by simp [hd8_len, z4]
  unfold splice pgB1 pgPad
  rw [e, List.take_append_of_le_length (by omega), List.take_of_length_le (by omega), List.drop_append, List.drop_of_length_le (by omega), List.nil_append, List.drop_replicate, pgHd_hd8, l16, show 4080 - (16 + x.length - 16) = 4080 - x.length from by omega]
  simp only [List.append_assoc]
theorem pg_splice2 (k : Byte) (n : BitVec 32) (x : List Byte) {s : List Byte} (h : s.length = 4) : splice (pgB1 k n x) 12 s = pgHd k n ++ (s ++ pgPad x) := by
  have l12 := pgHd_len k n
  unfold splice pgB1
  rw [h, List.take_append_of_le_length (by omega), List.take_of_length_le (by omega), List.drop_append, List.drop_of_length_le (by omega), l12]
  rfl
theorem pgB1_take (k : Byte) (n : BitVec 32) (x : List Byte) : (pgB1 k n x).take 12 = pgHd k n := by
  unfold pgB1; rw [List.take_append_of_le_length (by rw [pgHd_len]; omega), List.take_of_length_le (by rw [pgHd_len]; omega)]
theorem pgB1_drop (k : Byte) (n : BitVec 32) (x : List Byte) : (pgB1 k n x).drop 16 = pgPad x := by
  unfold pgB1
  rw [List.drop_append, List.drop_of_length_le (by rw [pgHd_len]; omega), pgHd_len]
  rfl
/-- Bytes of the call's own, and an error, that are returned. -/
def PgBy (r : List Byte × Int) (w : World) (e : Ending) (w' : World) : Prop :=
  ∃ A c, e = .returned (.tuple #[.slice A r.1.length c, .int .i64 r.2]) ∧ Own w' w.heap.size (.slice A r.1.length c) r.1 ∧ FB w w'
set_option maxHeartbeats 4000000 in
theorem pg_Bytes (K : Int) (n : BitVec 32) (x : List Byte) (A : Option Addr) (c : Nat) (w : World) (hx : x.length ≤ 1000000000) (hr : Rd w A x) :
    Calls Tryd.prog 25 #[.agg #[.int .i64 K, .int .u32 (nb n), .slice A x.length c]] w fun e w' => PgBy (pgB K n x) w e w' := by
  have HF := Lib.hid ((FB.refl w).alloc (.cells #[.int .i64 K, .int .u32 (nb n), .slice A x.length c] 45))
  have HR := Lib.hid hr
  obtain ⟨R, hR⟩ : ∃ R, R = pgB K n x := ⟨_, rfl⟩
  rw [← hR]
  unfold pgB at hR
  clear hr
  by_cases h1 : K < 1
  · obtain rfl : R = ([], 2) := by rw [hR, if_neg (by rw [pgOk_iff]; omega)]
    clear hR
    go_enter Tryd.func25, Tryd.ntmps25
    go_wp2
    go_ret2
    exact ⟨none, 0, rfl, Own.nil _ _, HF.out⟩
  · by_cases h2 : 7 < K
    · obtain rfl : R = ([], 2) := by rw [hR, if_neg (by rw [pgOk_iff]; omega)]
      clear hR
      go_enter Tryd.func25, Tryd.ntmps25
      go_wp2
      go_ret2
      exact ⟨none, 0, rfl, Own.nil _ _, HF.out⟩
    · by_cases h3 : 4080 < x.length
      · obtain rfl : R = ([], 2) := by rw [hR, if_neg (by rw [pgOk_iff]; omega)]
        have h3z : 4080 < (x.length : Int) := by omega
        clear hR h3
        go_enter Tryd.func25, Tryd.ntmps25
        go_wp2
        go_ret2
        exact ⟨none, 0, rfl, Own.nil _ _, HF.out⟩
      · rw [if_pos (pgOk_iff.2 (by omega))] at hR
        have HRR := Lib.hid hR
        have h3z : ¬ 4080 < (x.length : Int) := by omega
        have HX := Lib.hid (show x.length ≤ 4080 from by omega)
        have hwK : IntKind.u8.wrap K = K := by rw [IntKind.wrap_u8]; omega
        have hwn : IntKind.u64.wrap (nb n) = nb n := by rw [wrap_u64]; have := nb_lt32 n; have := nb_nonneg n; omega
        obtain ⟨k, hk⟩ : ∃ k, k = BitVec.ofInt 8 K := ⟨_, rfl⟩
        have HKN := Lib.hid (show nb k = K from by rw [hk]; exact nb_kind (by omega))
        rw [← hk] at HRR
        have HLIT := Lib.hid (show ∀ W : World, Rd (W.alloc (.cells #[.int .u8 84, .int .u8 77, .int .u8 1, .int .u8 K] 5)) (some ⟨W.heap.size, 0, none⟩) [0x54#8, 0x4d#8, 1#8, k] from fun W => by
          unfold Rd
          rw [show vbs [0x54#8, 0x4d#8, 1#8, k] = [.int .u8 84, .int .u8 77, .int .u8 1, .int .u8 K] from by rw [← HKN.out]; rfl]
          exact RdV.lit W [.int .u8 84, .int .u8 77, .int .u8 1, .int .u8 K] 5 rfl)
        have HWD := Lib.hid (fun W => by
          have := oct_Word [0x54#8, 0x4d#8, 1#8, k] (some ⟨W.heap.size, 0, none⟩) 4 4 (n.setWidth 64) 4 (W.alloc (.cells #[.int .u8 84, .int .u8 77, .int .u8 1, .int .u8 K] 5)) rfl (by simp) (by simp [maxLen]) (by simp) (HLIT.out W)
          rw [nb_setWidth n (by omega)] at this
          exact this.mono (fun e w' h => by
            obtain ⟨v, h1, h2, h3⟩ := h
            exact (show ∃ v, e = .returned v ∧ Own w' W.heap.size v (hd8 k n) ∧ FB W w' from ⟨v, h1, h2.lower (by simp), ((FB.refl W).alloc _).call h3⟩)))
        have HBX := Lib.hid (heap_alloc_new w (.cells #[.int .i64 K, .int .u32 (nb n), .slice A x.length c] 45))
        clear hR hk h3
        go_enter Tryd.func25, Tryd.ntmps25
        go_wp2_with fail
        have hcw := HWD.out (w.alloc (.cells #[.int .i64 K, .int .u32 (nb n), .slice A x.length c] 45))
        simp only [World.size_alloc] at hcw
        refine hcw.mono ?_
        rintro e w1 ⟨v, rfl, ho, hb⟩
        obtain ⟨A1, c1, rfl, -, -, -, -⟩ := Own.form ho
        rw [hd8_len] at ho ⊢
        have HF1 := Lib.hid (HF.out.trans hb)
        have HBX1 := Lib.hid ((hb.block _ (Array.getElem?_eq_some_iff.1 HBX.out).1).trans HBX.out)
        have HG1 := Lib.hid (show w.heap.size + 1 ≤ w1.heap.size from by have := hb.le; simpa using this)
        obtain ⟨v2, w2, hrun, ho2, hgr⟩ := run_append_zeros w1 (w.heap.size + 1) _ _ ho (by rw [hd8_len]; omega) 4088 (by omega) (by rw [hd8_len]; omega) HG1.out
        have HRUN := Lib.hid hrun
        have hlo := fun k hk => (OwnV.base ho k hk).1
        have HF2 := Lib.hid (HF1.out.grown hgr (fun k hk => by have := hlo k hk; omega))
        have HBX2 := Lib.hid ((hgr.block _ (Array.getElem?_eq_some_iff.1 HBX1.out).1 (fun e => by have := hlo _ e.symm; omega)).trans HBX1.out)
        obtain ⟨A2, c2, rfl, hc2, hm2, -, -⟩ := Own.form ho2
        have hl2 : (hd8 k n ++ List.replicate 4088 0#8).length = 4096 := by simp [hd8_len]
        rw [hl2] at ho2 hc2 HRUN
        obtain ⟨g, rfl, hg1, -⟩ := OwnV.head0 ho2 (by rw [vbs_length, hl2]; omega)
        have HC2 := Lib.hid (And.intro hc2 hm2)
        have HO2 := Lib.hid ho2
        have HGB := Lib.hid hg1
        clear hcw ho hb hrun hgr hlo ho2 hl2 hc2 hm2 hg1 HWD HLIT HBX HF HBX1 HG1 hwK hwn
        go_upto_region 6 with (at_builtin; refine Lib.wpList_append_run _ rfl _ _ _ _ rfl _ _ rfl rfl _ _ (HRUN.out _) ?_)
        clear HRUN
        have HCF := Lib.hid (show (16 : Int) ≤ (c2 : Int) ∧ (12 : Int) ≤ (c2 : Int) ∧ (c2 : Int) ≤ 9223372036854775807 ∧ 16 < c2 from by have := HC2.out; simp only [maxLen] at this; omega)
        have hf1 := HCF.out.1
        have hf2 := HCF.out.2.1
        have hf3 := HCF.out.2.2.1
        have hf5 : ¬ c2 = 16 := by have := HCF.out; omega
        have hf6 : ¬ c2 = 12 := by have := HCF.out; omega
        obtain ⟨W0, hW0⟩ : ∃ W0 : World, W0 = w2 := ⟨_, rfl⟩
        rw [← hW0]
        refine region_sch (E := TS ([g])) ((0, true) :: (1, true) :: (2, true) :: (3, true) :: (4, false) :: []) (by kernel_rfl) (TS.refl _) (fun _ _ _ h k => TS.then h k) (fun _ _ d _ _ h => by cases d <;> exact h) (by kernel_rfl) ?_
        intro ops hops0
        have hops := Lib.hid hops0
        clear hops0
        have HF : TS ([g]) W0 W0.drew := TS.of (FB.refl _).drew
        have HD : FB W0 W0.drew := (FB.refl _).drew
        generalize W0.drew = wF0 at *
        rw [hW0] at HD
        have HFq := Lib.hid (HF2.out.trans HD)
        have HBq := Lib.hid ((HD.block _ (Array.getElem?_eq_some_iff.1 HBX2.out).1).trans HBX2.out)
        have HOq := Lib.hid (HD.own HO2.out)
        have HK := Lib.hid (prow3 HBq.out).2.2
        have HNG := Lib.hid (show w.heap.size ∉ [g] from by have := HGB.out; simp; omega)
        clear hW0 HD HF HBX2 HO2 HF2
        repeat (refine sch_take (o := ?_) (v := ?_) (a' := ?_) (at_of hops.out ?_) ?_ (fun W hW => ?_) ?_ ?_; rotate_left 3; (focus (simp only [List.getElem?_toArray, List.getElem?_cons_zero, List.getElem?_cons_succ]; rfl)); (focus (rw [hops.out]; rfl)); (focus (have u1 := TS.cell hW HK.out HNG.out; go_simp; with_reducible rfl)); (focus (simp only [Act.put, List.setIfInBounds_toArray, List.set_cons_zero, List.set_cons_succ]; rfl)))
        obtain ⟨w6, hrunc, hoc, htb⟩ := cp_run HOq.out 16 4080 (c2 - 16) A c x (HFq.out.rd HR.out) HX.out (by have := HX.out; simp [hd8_len]; omega)
        rw [pg_splice1 k n HX.out] at hoc
        (refine cp_sch (o := ?_) (at_of hops.out ?_) ?_ (.tmp 34) (.tmp 36) 27 27 ?_ _ _ ?_ ?_ hrunc (TS.tb htb (by simp)) ?_; rotate_left 1; (focus (simp only [List.getElem?_toArray, List.getElem?_cons_zero, List.getElem?_cons_succ]; rfl)); (focus (rw [hops.out]; rfl)); (focus rfl); (focus rfl); (focus rfl))
        simp only [Act.put, List.setIfInBounds_toArray, List.set_cons_zero, List.set_cons_succ]
        refine sch_done ?_
        have HT6 := Lib.hid (show TS [g] wF0 w6 from TS.tb htb (by simp))
        have HF6 := Lib.hid (HFq.out.ts HT6.out (fun y hy => by have := HGB.out; simp at hy; omega))
        have HO6 := Lib.hid hoc
        clear hops hoc htb hrunc HOq HFq HBq HK HT6
        go_upto_region 7 with fail
        obtain ⟨W0, hW0⟩ : ∃ W0 : World, W0 = w6 := ⟨_, rfl⟩
        rw [← hW0]
        refine region_sch (E := TS ([g])) ((0, true) :: (1, true) :: (2, true) :: (3, false) :: (4, true) :: (5, false) :: (6, false) :: []) (by kernel_rfl) (TS.refl _) (fun _ _ _ h k => TS.then h k) (fun _ _ d _ _ h => by cases d <;> exact h) (by kernel_rfl) ?_
        intro ops hops0
        have hops := Lib.hid hops0
        clear hops0
        have HF : TS ([g]) W0 W0.drew := TS.of (FB.refl _).drew
        have HD : FB W0 W0.drew := (FB.refl _).drew
        generalize W0.drew = wF0 at *
        rw [hW0] at HD
        have HFq := Lib.hid (HF6.out.trans HD)
        have HOq := Lib.hid (HD.own HO6.out)
        clear hW0 HD HF HF6 HO6
        repeat (refine sch_take (o := ?_) (v := ?_) (a' := ?_) (at_of hops.out ?_) ?_ (fun W hW => ?_) ?_ ?_; rotate_left 3; (focus (simp only [List.getElem?_toArray, List.getElem?_cons_zero, List.getElem?_cons_succ]; rfl)); (focus (rw [hops.out]; rfl)); (focus (go_simp; with_reducible rfl)); (focus (simp only [Act.put, List.setIfInBounds_toArray, List.set_cons_zero, List.set_cons_succ]; rfl)))
        have HCR := Lib.hid (show Calls Tryd.prog 44 #[.slice (some ⟨g, 0, none⟩) 4096 c2] wF0 fun e w' => e = .returned (.int .u32 (nb (pgSum k n x))) ∧ FB wF0 w' from by
          have h1 := pg_crcOf (pgB1 k n x) g 0 c2 wF0 (pgB1_len k n HX.out) HC2.out.1 HC2.out.2 (Own.info HOq.out).2.2.1
          rw [pgB1_take, pgB1_drop] at h1
          exact h1)
        (refine sch_call (o := ?_) (f := ?_) (args := ?_) (at_of hops.out ?_) ?_ ?_ ?_; rotate_left 3; (focus (simp only [List.getElem?_toArray, List.getElem?_cons_zero, List.getElem?_cons_succ]; rfl)); (focus (rw [hops.out]; rfl)); (focus (go_simp; constructor <;> with_reducible rfl)); (first | ((with_reducible refine (HCR.out).mono ?_); rintro e w7 ⟨rfl, hb⟩; refine ⟨_, rfl, (TS.of hb), ?_⟩; intro a' ha'; simp only [Act.put, List.setIfInBounds_toArray, List.set_cons_zero, List.set_cons_succ] at ha'; subst ha')))
        have HFr := Lib.hid (HFq.out.trans hb)
        have HOr := Lib.hid (FB.own hb HOq.out)
        clear hb HCR HOq HFq
        generalize hsm : pgSum k n x = sm at *
        have HSM := Lib.hid hsm
        have hws : IntKind.u64.wrap (nb sm) = nb sm := by rw [wrap_u64]; have := nb_lt32 sm; have := nb_nonneg sm; omega
        clear hsm
        repeat (refine sch_take (o := ?_) (v := ?_) (a' := ?_) (at_of hops.out ?_) ?_ (fun W hW => ?_) ?_ ?_; rotate_left 3; (focus (simp only [List.getElem?_toArray, List.getElem?_cons_zero, List.getElem?_cons_succ]; rfl)); (focus (rw [hops.out]; rfl)); (focus (go_simp; with_reducible rfl)); (focus (simp only [Act.put, List.setIfInBounds_toArray, List.set_cons_zero, List.set_cons_succ]; rfl)))
        have HW2 := Lib.hid (show Calls Tryd.prog 24 #[.slice none 0 0, .int .u64 (nb sm), .int .i64 4] w7 fun e w' => ∃ v, e = .returned v ∧ Own w' w7.heap.size v (oword 4 (sm.setWidth 64)) ∧ FB w7 w' from by
          have h1 := oct_Word [] none 0 0 (sm.setWidth 64) 4 w7 rfl (by simp) (by simp [maxLen]) (by simp) (Rd.nil _ _)
          rw [nb_setWidth sm (by omega)] at h1
          exact h1)
        (refine sch_call (o := ?_) (f := ?_) (args := ?_) (at_of hops.out ?_) ?_ ?_ ?_; rotate_left 3; (focus (simp only [List.getElem?_toArray, List.getElem?_cons_zero, List.getElem?_cons_succ]; rfl)); (focus (rw [hops.out]; rfl)); (focus (go_simp; constructor <;> with_reducible rfl)); (first | ((with_reducible refine (HW2.out).mono ?_); rintro e w8 ⟨v8, rfl, ho8, hb⟩; refine ⟨_, rfl, (TS.of hb), ?_⟩; intro a' ha'; simp only [Act.put, List.setIfInBounds_toArray, List.set_cons_zero, List.set_cons_succ] at ha'; subst ha')))
        obtain ⟨A8, c8, rfl, -, -, hr8, -⟩ := Own.form ho8
        have HFs := Lib.hid (HFr.out.trans hb)
        have HOs := Lib.hid (FB.own hb HOr.out)
        obtain ⟨w9, hrunc, hoc, htb⟩ := cp_run HOs.out 12 4 (c2 - 12) A8 c8 (oword 4 (sm.setWidth 64)) hr8 (by rw [oword_len]; omega) (by rw [oword_len, pgB1_len k n HX.out]; omega)
        rw [pg_splice2 k n x (oword_len _ _)] at hoc
        rw [oword_len] at hrunc ⊢
        (refine cp_sch (o := ?_) (at_of hops.out ?_) ?_ (.tmp 39) (.tmp 43) 27 27 ?_ _ _ ?_ ?_ hrunc (TS.tb htb (by simp)) ?_; rotate_left 1; (focus (simp only [List.getElem?_toArray, List.getElem?_cons_zero, List.getElem?_cons_succ]; rfl)); (focus (rw [hops.out]; rfl)); (focus rfl); (focus rfl); (focus rfl))
        simp only [Act.put, List.setIfInBounds_toArray, List.set_cons_zero, List.set_cons_succ]
        refine sch_done ?_
        have HE := Lib.hid (HFs.out.ts (show TS [g] w8 w9 from TS.tb htb (by simp)) (fun y hy => by have := HGB.out; simp at hy; omega))
        have HO9 := Lib.hid (show Own w9 w.heap.size (.slice (some ⟨g, 0, none⟩) 4096 c2) (pgBytes k n x) from by
          unfold pgBytes; rw [HSM.out]; exact hoc.lower (by omega))
        clear hops hoc htb hrunc HOs HOr HFr HFs hr8 ho8 hb
        go_wp2
        go_ret2
        rw [HRR.out]
        exact ⟨some ⟨g, 0, none⟩, c2, by rw [pgBytes_len k n HX.out]; rfl, by rw [pgBytes_len k n HX.out]; exact HO9.out, HE.out⟩
end Go.Proofs.YtoidlmhebnlnbaaDoor
