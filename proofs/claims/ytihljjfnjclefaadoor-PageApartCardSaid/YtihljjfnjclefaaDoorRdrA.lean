/- A reader: the walks through Fixed, Word. -/
import Derived.Test.YtihljjfnjclefaaDoorRdr
import Derived.Test.YtihljjfnjclefaaDoorSched
import Derived.Test.YtihljjfnjclefaaDoorXhP
set_option linter.unusedVariables false
set_option linter.unusedSimpArgs false
namespace Go.Proofs.YtihljjfnjclefaaDoor
open Go.ChangeShapes Go.WideShapes Go.ChangeAt Go.RowKit
attribute [local go_sem] nb_nonneg nb_lt8 nb_lt64

/-- x[k:k+n]. -/
theorem cut_mid (A : Option Addr) (c : Nat) (xs : List Byte) (k n : Nat) (hk : k + n ≤ xs.length) (hc : xs.length ≤ c) :
    ∃ A', (∀ W, (Instr.slice 23 (.slice A xs.length c) (some (.int .i64 (k : Int))) (some (.int .i64 ((k : Int) + (n : Int)))) none).run Tryd.prog W = .ok (.slice A' n (c - k)) W) ∧ (∀ w, Rd w A xs → Rd w A' ((xs.drop k).take n)) := by
  obtain ⟨i, hi, _, hsz, _⟩ := info_parts info_u8
  refine ⟨if c = k then A else A.map (·.add k), fun W => ?_, fun w h => ?_⟩
  · have hel : Tryd.prog.elem 23 = 5 := by simp [Program.elem, Tryd.underlying23]
    have hu : Tryd.prog.underlying 23 = some (.slice (Tryd.prog.elem 23)) := by rw [hel]; exact Tryd.underlying23
    rw [run_slice_lh W 23 A xs.length c hu .i64 .i64 (k : Int) ((k : Int) + (n : Int)) (Int.natCast_nonneg _) (by omega) (by omega), hel]
    simp [sizeOf, typeInfo, hi, hsz, sliced, Result.andThen]
    omega
  · by_cases hck : c = k
    · have : n = 0 := by omega
      subst this
      rw [List.take_zero]; exact Rd.nil _ _
    · rw [if_neg hck]
      apply Rd.take
      intro j hj
      simp only [vbs_length, List.length_drop] at hj
      obtain ⟨b, o, rfl, hb, hcell⟩ := h.form (by omega)
      refine ⟨b, o + k, ?_, ?_⟩
      · have : (⟨b, o, none⟩ : Addr).add k = ⟨b, o + k, none⟩ := by unfold Addr.add; split <;> simp_all
        simp [this]
      · have := hcell (k + j) (by omega)
        rw [Nat.add_assoc, this]
        simp [vbs]
theorem Rdr.cellsF {w : World} {base g : Nat} {xs : List Byte} {k : Nat} {e : Int} (h : Rdr w base g xs k e) : ∃ A c,
    Hid (∀ W, Below w.heap.size w W → W.cell? ⟨g, 0, none⟩ = some (.slice A xs.length c) ∧ W.cell? ⟨g, 1, none⟩ = some (.int .i64 k) ∧ W.cell? ⟨g, 2, none⟩ = some (.int .i64 e) ∧ W.cell? ⟨g, 3, none⟩ = some (.bool true) ∧
    W.frozen? ⟨g, 1, none⟩ = false ∧ W.frozen? ⟨g, 2, none⟩ = false) ∧ xs.length ≤ c ∧ c ≤ maxLen ∧ Hid (Rd w A xs) ∧ Hid (∀ ad, A = some ad → base ≤ ad.block ∧ ad.block < g) := by
  obtain ⟨A, c, h1, h2, h3, h4, h5⟩ := h.row
  refine ⟨A, c, fun W hW => ?_, h2, h3, h4, h5⟩
  have h1 : W.heap[g]? = _ := (FB.block (w0 := w) hW g h.lt).trans h1
  exact ⟨by rw [cell_of_row _ _ _ _ _ _ h1]; rfl, by rw [cell_of_row _ _ _ _ _ _ h1]; rfl, by rw [cell_of_row _ _ _ _ _ _ h1]; rfl, by rw [cell_of_row _ _ _ _ _ _ h1]; rfl, frozen_row _ h1 _, frozen_row _ h1 _⟩

set_option maxRecDepth 100000 in
set_option maxHeartbeats 1000000 in
/-- So many bytes that are there. -/
theorem oct_Fixed_ok {xs : List Byte} {base g k : Nat} {w : World} (h : Rdr w base g xs k 0) (z : Int) (n : Nat) (hz : max 0 z = (n : Int)) (hn : k + n ≤ xs.length) (hl : xs.length ≤ 100000000000000) :
    Calls Tryd.prog 65 #[.pointer (some ⟨g, 0, none⟩), .int .i64 z] w fun e w' => ∃ v, e = .returned v ∧ Own w' w.heap.size v ((xs.drop k).take n) ∧ Rdr w' base g xs (k + n) 0 ∧ TB g w w' := by
  have hmax : ∀ (ts : Array TypeId) (t : TypeId) (W : World), (Builtin.max_ ts t #[.int .i64 0, .int .i64 z]).run Tryd.prog W = .ok (.int .i64 (n : Int)) W := fun ts t W => by
    rw [← hz, run_max_int2]; congr 2; split <;> omega
  have H := Lib.hid h
  obtain ⟨A, c, HQ, hc, hcm, HR, HB⟩ := h.cellsF
  obtain ⟨A', hcut, hcr⟩ := cut_mid A c xs k n hn hc
  have HCR := Lib.hid (hcr w HR.out)
  have hlen : ((xs.drop k).take n).length = n := by rw [List.length_take, List.length_drop]; omega
  have HLEN := Lib.hid hlen
  have hk0 : k ≤ xs.length := by omega
  have hwr : IntKind.i64.wrap ((xs.length : Int) - (k : Int)) = (xs.length : Int) - (k : Int) := by rw [IntKind.wrap_i64]; omega
  have hd : decide ((xs.length : Int) - (k : Int) < (n : Int)) = false := by simp; omega
  have hwa : IntKind.i64.wrap ((k : Int) + (n : Int)) = (k : Int) + (n : Int) := by rw [IntKind.wrap_i64]; omega
  clear h hcr hlen hz
  go_enter Tryd.func65, Tryd.ntmps65
  go_wp2_with fail
  refine (oct_ready H.out).mono ?_
  rintro e w1 ⟨rfl, rfl⟩
  go_wp2_with fail
  obtain ⟨W0, hW0⟩ : ∃ W0 : World, W0 = w := ⟨_, rfl⟩
  subst hW0
  refine region_sch (E := FB) ((0, true) :: (1, true) :: (2, true) :: (3, true) :: (4, true) :: (5, true) :: (6, true) :: (7, true) :: (8, true) :: (9, true) :: (10, true) :: (11, true) :: []) (by kernel_rfl) FB.refl fb_trans (fun _ _ d _ _ h => by cases d <;> exact h) (by kernel_rfl) ?_
  intro ops hops0
  have hops := Lib.hid hops0
  clear hops0
  have HF : FB W0 W0.drew := (FB.refl _).drew
  generalize W0.drew = wF at *
  repeat (refine sch_take (o := ?_) (v := ?_) (a' := ?_) (at_of hops.out ?_) ?_ (fun W hW => ?_) ?_ ?_; rotate_left 3; (focus (simp only [List.getElem?_toArray, List.getElem?_cons_zero, List.getElem?_cons_succ]; rfl)); (focus (rw [hops.out]; rfl)); (focus (obtain ⟨q0, q1, q2, q3, q4, q5⟩ := HQ.out W (HF.trans hW); go_simp; with_reducible rfl)); (focus (simp only [Act.put, List.setIfInBounds_toArray, List.set_cons_zero, List.set_cons_succ]; rfl)))
  refine sch_done ?_
  clear hops
  have HF0 := Lib.hid HF
  obtain ⟨q0, q1, q2, q3, q4, q5⟩ := HQ.out wF HF
  clear HF
  go_wp2_with fail
  have HQ1 := Lib.hid (fun W (hW : FB wF W) => HQ.out W (Below.trans HF0.out (Below.mono hW (FB.le HF0.out))))
  have HRF := Lib.hid ((FB.rd (w0 := W0) HF0.out HR.out))
  have HCF := Lib.hid ((FB.rd (w0 := W0) HF0.out HCR.out))
  clear q0 q1 q2 q3 q4 q5
  generalize hwF : wF = W1 at *
  clear hwF
  refine region_sch (E := Below (W1.heap.size)) ((1, true) :: (2, true) :: (3, true) :: (4, true) :: (5, true) :: (6, true) :: (7, true) :: (8, true) :: (9, true) :: (10, true) :: (11, true) :: (12, true) :: (13, true) :: (14, true) :: (15, true) :: (0, false) :: (16, false) :: (17, true) :: []) (by kernel_rfl) (Below.refl _) (fun _ _ _ h k => Below.trans h k) (fun _ _ d _ _ h => by cases d <;> exact h) (by kernel_rfl) ?_
  intro ops hops0
  have hops := Lib.hid hops0
  clear hops0
  have HF : Below (W1.heap.size) W1 W1.drew := (Below.refl _ _).drew
  generalize W1.drew = wF1 at *
  repeat (refine sch_take (o := ?_) (v := ?_) (a' := ?_) (at_of hops.out ?_) ?_ (fun W hW => ?_) ?_ ?_; rotate_left 3; (focus (simp only [List.getElem?_toArray, List.getElem?_cons_zero, List.getElem?_cons_succ]; rfl)); (focus (rw [hops.out]; rfl)); (focus (obtain ⟨q0, q1, q2, q3, q4, q5⟩ := HQ1.out W (HF.trans hW); have q := hcut W; go_simp; with_reducible rfl)); (focus (simp only [Act.put, List.setIfInBounds_toArray, List.set_cons_zero, List.set_cons_succ]; rfl)))
  have hle : W1.heap.size ≤ wF1.heap.size := HF.size
  have HLE := Lib.hid hle
  clear hle
  (refine sch_run (o := ?_) (v := ?_) (a' := ?_) (w' := ?_) (at_of hops.out ?_) ?_ ?_ ?_ ?_ ?_; rotate_left 4; (focus (simp only [List.getElem?_toArray, List.getElem?_cons_zero, List.getElem?_cons_succ]; rfl)); (focus (rw [hops.out]; rfl)); (focus (go_simp; constructor <;> with_reducible rfl)); (focus (exact (Below.refl _ _).alloc HLE.out _)); (focus (simp only [Act.put, List.setIfInBounds_toArray, List.set_cons_zero, List.set_cons_succ]; rfl)))
  (refine sch_append_bytes (o := ?_) (at_of hops.out ?_) ?_ (.tmp 25) (.tmp 40) ?_ wF1.heap.size _ [] (OwnV.lit _ wF1 [] (by simp)) ?_ A' n (c - k) ((xs.drop k).take n) HLEN.out.symm ?_ ((HCF.out.below (w' := wF1) HF).alloc _) (by rw [HLEN.out]; simp; omega) (by simp) ?_; rotate_left 1; (focus (simp only [List.getElem?_toArray, List.getElem?_cons_zero, List.getElem?_cons_succ]; rfl)); (focus (rw [hops.out]; rfl)); (focus rfl); (focus rfl); (focus rfl))
  intro v' w' ho hg _
  rw [List.nil_append] at ho
  have hE : Below W1.heap.size (wF1.alloc (.cells #[] 5)) w' := (Below.refl _ _).grown hg (by have := HLE.out; simp; omega) (by have := HLE.out; simp [Value.ownBlock]; omega)
  have HO2 := Lib.hid ho
  have HE := Lib.hid hE
  clear ho hg hE
  refine ⟨HE.out, ?_⟩
  intro a' ha'
  simp only [Act.put, List.setIfInBounds_toArray, List.set_cons_zero, List.set_cons_succ] at ha'
  subst ha'
  repeat (refine sch_take (o := ?_) (v := ?_) (a' := ?_) (at_of hops.out ?_) ?_ (fun W hW => ?_) ?_ ?_; rotate_left 3; (focus (simp only [List.getElem?_toArray, List.getElem?_cons_zero, List.getElem?_cons_succ]; rfl)); (focus (rw [hops.out]; rfl)); (focus (go_simp; with_reducible rfl)); (focus (simp only [Act.put, List.setIfInBounds_toArray, List.set_cons_zero, List.set_cons_succ]; rfl)))
  refine sch_done ?_
  have HF2 := Lib.hid (show FB W1 w' from (HF.trans (((Below.refl _ _).alloc HLE.out _).trans HE.out)))
  have HO3 := Lib.hid (Own.lower HO2.out (Nat.le_trans (FB.le HF0.out) HLE.out))
  have HR3 := Lib.hid ((H.out.fb HF0.out).fb HF2.out)
  clear hops HF HE HO2 hcut
  obtain ⟨q0, q1, q2, q3, q4, q5⟩ := HQ1.out w' HF2.out
  go_wp2
  go_ret
  have hput := HR3.out.put (k + n) hn
  rw [Int.natCast_add] at hput
  exact ⟨_, rfl, (TB.set w' 1 _).own HO3.out H.out.lt, hput, (TB.of (FB.trans HF0.out HF2.out)).trans (TB.set w' 1 _)⟩

set_option maxRecDepth 100000 in
set_option maxHeartbeats 1000000 in
/-- More bytes than there are. -/
theorem oct_Fixed_more {xs : List Byte} {base g k : Nat} {w : World} (h : Rdr w base g xs k 0) (z : Int) (hz : (xs.length : Int) - k < z) (hz2 : z ≤ 9223372036854775807) (hl : xs.length ≤ 100000000000000) :
    Calls Tryd.prog 65 #[.pointer (some ⟨g, 0, none⟩), .int .i64 z] w fun e w' => ∃ v, e = .returned v ∧ Own w' w.heap.size v [] ∧ Rdr w' base g xs k 5 ∧ TB g w w' := by
  have hle := h.le
  have hmax : ∀ (ts : Array TypeId) (t : TypeId) (W : World), (Builtin.max_ ts t #[.int .i64 0, .int .i64 z]).run Tryd.prog W = .ok (.int .i64 z) W := fun ts t W => by
    rw [run_max_int2]; congr 2; split <;> omega
  have H := Lib.hid h
  obtain ⟨A, c, HQ, hc, hcm, HR, HB⟩ := h.cellsF
  have hwr : IntKind.i64.wrap ((xs.length : Int) - (k : Int)) = (xs.length : Int) - (k : Int) := by rw [IntKind.wrap_i64]; omega
  have hd : decide ((xs.length : Int) - (k : Int) < z) = true := by simp; omega
  clear h
  go_enter Tryd.func65, Tryd.ntmps65
  go_wp2_with fail
  refine (oct_ready H.out).mono ?_
  rintro e w1 ⟨rfl, rfl⟩
  go_wp2_with fail
  obtain ⟨W0, hW0⟩ : ∃ W0 : World, W0 = w := ⟨_, rfl⟩
  subst hW0
  refine region_sch (E := FB) ((0, true) :: (1, true) :: (2, true) :: (3, true) :: (4, true) :: (5, true) :: (6, true) :: (7, true) :: (8, true) :: (9, true) :: (10, true) :: (11, true) :: []) (by kernel_rfl) FB.refl fb_trans (fun _ _ d _ _ h => by cases d <;> exact h) (by kernel_rfl) ?_
  intro ops hops0
  have hops := Lib.hid hops0
  clear hops0
  have HF : FB W0 W0.drew := (FB.refl _).drew
  generalize W0.drew = wF at *
  repeat (refine sch_take (o := ?_) (v := ?_) (a' := ?_) (at_of hops.out ?_) ?_ (fun W hW => ?_) ?_ ?_; rotate_left 3; (focus (simp only [List.getElem?_toArray, List.getElem?_cons_zero, List.getElem?_cons_succ]; rfl)); (focus (rw [hops.out]; rfl)); (focus (obtain ⟨q0, q1, q2, q3, q4, q5⟩ := HQ.out W (HF.trans hW); go_simp; with_reducible rfl)); (focus (simp only [Act.put, List.setIfInBounds_toArray, List.set_cons_zero, List.set_cons_succ]; rfl)))
  refine sch_done ?_
  clear hops
  have HF0 := Lib.hid HF
  have HR0 := Lib.hid (H.out.fb (show FB W0 wF from HF))
  obtain ⟨q0, q1, q2, q3, q4, q5⟩ := HQ.out wF HF
  clear HF
  go_wp2_with fail
  refine (oct_fail HR0.out _).mono ?_
  rintro e w1 ⟨rfl, rfl⟩
  go_wp2
  go_ret
  exact ⟨_, rfl, Own.nil _ _, HR0.out.fail 5 (by omega), (TB.of HF0.out).trans (TB.set wF 2 _)⟩
set_option maxRecDepth 100000 in
set_option maxHeartbeats 1000000 in
theorem oct_Fixed_err {xs : List Byte} {base g k : Nat} {w : World} {er : Int} (h : Rdr w base g xs k er) (he : er ≠ 0) (z : Int) :
    Calls Tryd.prog 65 #[.pointer (some ⟨g, 0, none⟩), .int .i64 z] w fun e w' => e = .returned (.slice none 0 0) ∧ w = w' := by
  have H := Lib.hid h
  have hd : (er == 0) = false := beq_eq_false_iff_ne.2 he
  clear h he
  go_enter Tryd.func65, Tryd.ntmps65
  go_wp2_with fail
  refine (oct_ready H.out).mono ?_
  rintro e w1 ⟨rfl, rfl⟩
  go_wp2
  go_ret
  exact ⟨rfl, rfl⟩

/-! ### Word -/
/-- The number that the lowest bytes are. -/
theorem xword_snoc (xs : List Byte) (b : Byte) (h : xs.length ≤ 7) : xword (xs ++ [b]) = xword xs ||| (b.setWidth 64) <<< (8 * xs.length) := by
  induction xs with
  | nil => simp [xword]
  | cons x xs ih =>
    simp only [List.length_cons] at h
    rw [List.cons_append, xword, ih (by omega), xword, BitVec.shiftLeft_or_distrib, ← BitVec.or_assoc]
    congr 1
    rw [List.length_cons, show 8 * (xs.length + 1) = 8 * xs.length + 8 by omega, BitVec.shiftLeft_add]
set_option maxRecDepth 100000 in
set_option maxHeartbeats 1000000 in
theorem oct_RWord_ok {xs : List Byte} {base g k : Nat} {w : World} (h : Rdr w base g xs k 0) (n : Nat) (hn8 : n = 2 ∨ n = 4 ∨ n = 8) (hn : k + n ≤ xs.length) (hl : xs.length ≤ 100000000000000) :
    Calls Tryd.prog 40 #[.pointer (some ⟨g, 0, none⟩), .int .i64 (n : Int)] w fun e w' => e = .returned (.int .u64 (nb (xword ((xs.drop k).take n)))) ∧ Rdr w' base g xs (k + n) 0 ∧ TB g w w' := by
  have H := Lib.hid h
  have hlen : ((xs.drop k).take n).length = n := by rw [List.length_take, List.length_drop]; omega
  have HLEN := Lib.hid hlen
  have hn9 : n ≤ 8 := by omega
  clear h hlen
  have hb : (((n : Int) == 2) = true ∨ (((n : Int) == 2) = false ∧ ((n : Int) == 4) = true) ∨ (((n : Int) == 2) = false ∧ ((n : Int) == 4) = false ∧ ((n : Int) == 8) = true)) := by
    rcases hn8 with rfl | rfl | rfl <;> simp
  clear hn8
  rcases hb with h1 | ⟨h1, h2⟩ | ⟨h1, h2, h3⟩
  all_goals
    go_enter Tryd.func40, Tryd.ntmps40
    go_wp2_with fail
    refine (oct_ready H.out).mono ?_
    rintro e w1 ⟨rfl, rfl⟩
    go_wp2_with fail
    refine (oct_Fixed_ok H.out (n : Int) n (by omega) hn hl).mono ?_
    rintro e w1 ⟨v, rfl, ho, hr, ht⟩
    obtain ⟨A, c, rfl, hc, hcm, hrd, -⟩ := Own.form ho
    rw [HLEN.out]
    have HRD := Lib.hid hrd
    have HR1 := Lib.hid hr
    have HT1 := Lib.hid ht
    clear ho hr ht hrd hc hcm
    go_wp2
    go_loop [5, 6, 7, 22] (fun s _ _ i => ∃ j : Nat, j ≤ n ∧ i = .int .i64 j ∧ s = .int .u64 (nb (xword (((xs.drop k).take n).take j)))) (fun _ _ _ i => n - (intOf i).toNat)
    case atStart => exact ⟨0, by omega, rfl, by simp [xword, nb_zero]⟩
    case round =>
      obtain ⟨j, hj, rfl, rfl⟩ := hrel
      by_cases hlt : j < n
      · obtain ⟨b0, o0, rfl, hb0, hcell⟩ := HRD.out.form (by rw [HLEN.out]; omega)
        have hc := hcell j (by rw [HLEN.out]; exact hlt)
        have HS := Lib.hid (show xword (((xs.drop k).take n).take (j + 1)) = xword (((xs.drop k).take n).take j) ||| ((((xs.drop k).take n)[j]'(by rw [HLEN.out]; exact hlt)).setWidth 64) <<< (8 * j) by
          rw [List.take_succ_eq_append_getElem (by rw [HLEN.out]; exact hlt), xword_snoc _ _ (by rw [List.length_take]; omega), show (((xs.drop k).take n).take j).length = j by rw [List.length_take, HLEN.out, Nat.min_eq_left hj]])
        clear hcell
        generalize ((xs.drop k).take n)[j]'(by rw [HLEN.out]; exact hlt) = y at *
        generalize xword (((xs.drop k).take n).take j) = s at *
        have hsh : IntKind.u64.wrap (nb y * 2 ^ (8 * j)) = nb (y.setWidth 64 <<< (8 * j)) := by rw [← wrap_shl, nb_setWidth y (by omega)]
        have hor := bits_or64 s (y.setWidth 64 <<< (8 * j)) (Nat.le_refl _) (Nat.le_refl _)
        rw [BitVec.setWidth_eq, BitVec.setWidth_eq] at hor
        unfold vb at hc
        have hwy : IntKind.u64.wrap (nb y) = nb y := by rw [wrap_u64]; exact Int.emod_eq_of_lt (nb_nonneg _) (by have := nb_lt8 y; omega)
        go_wp2
        go_round
        case rel => exact ⟨j + 1, by omega, by go_num, by rw [HS.out, ← hor, ← hsh]⟩
        case measure => simp [intOf]; omega
      · obtain rfl : j = n := by omega
        go_wp2
        go_ret
        refine ⟨?_, HR1.out, HT1.out⟩
        have : (((xs.drop k).take j).take j) = (xs.drop k).take j := List.take_of_length_le (by rw [HLEN.out]; omega)
        rw [this]
        rfl
end Go.Proofs.YtihljjfnjclefaaDoor
