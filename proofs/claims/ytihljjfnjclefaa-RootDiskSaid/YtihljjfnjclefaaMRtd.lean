/- Walks and laws that the claim's last text stands on, several texts in one file: Rdr, RdrA, Str, PgA, RtA, RtB. Under the hypotheses that each theorem states. -/
import Derived.Maps.AppendAt
import Derived.Laws.IdiomStrings
import Derived.Lib.BufferRead
import Derived.Laws.BitsLemmas
import Derived.Deep.Cut
import Derived.Deep.CutRange
import Derived.Test.YtihljjfnjclefaaMRta
import Derived.Test.YtihljjfnjclefaaMRtb
import Derived.Test.YtihljjfnjclefaaMRtc
/- A reader: its block; the walks through New, made, ready, fail, Left, Err, End. -/
set_option linter.unusedVariables false
set_option linter.unusedSimpArgs false
namespace Go.Proofs.Ytihljjfnjclefaa
open Go.ChangeShapes Go.WideShapes Go.ChangeAt Go.RowKit

/-- A reader at block g: its bytes, which lie from block 'base' on and before g; its place; its error. -/
structure Rdr (w : World) (base g : Nat) (xs : List Byte) (k : Nat) (e : Int) : Prop where
  row : ∃ A c, w.heap[g]? = some (.cells #[.slice A xs.length c, .int .i64 k, .int .i64 e, .bool true] 107 (0, 0)) ∧ xs.length ≤ c ∧ c ≤ maxLen ∧ Rd w A xs ∧ ∀ ad, A = some ad → base ≤ ad.block ∧ ad.block < g
  le : k ≤ xs.length
  bg : base ≤ g
  er : -9223372036854775808 ≤ e ∧ e ≤ 9223372036854775807
theorem Rdr.lt {w : World} {base g : Nat} {xs : List Byte} {k : Nat} {e : Int} (h : Rdr w base g xs k e) : g < w.heap.size := by
  obtain ⟨A, c, h1, _⟩ := h.row
  exact (Array.getElem?_eq_some_iff.1 h1).1
/-- Another block is written. -/
theorem Rdr.tb {w w' : World} {base g g' : Nat} {xs : List Byte} {k : Nat} {e : Int} (h : Rdr w base g xs k e) (hk : TB g' w w') (hg : g' < base ∨ g < g') : Rdr w' base g xs k e := by
  obtain ⟨A, c, h1, h2, h3, h4, h5⟩ := h.row
  have hbg := h.bg
  refine ⟨⟨A, c, (hk.out.block _ h.lt (by simp; omega)).trans h1, h2, h3, hk.rd h4 (fun ad e => by have := h5 ad e; omega), h5⟩, h.le, h.bg, h.er⟩
theorem Rdr.fb {w w' : World} {base g : Nat} {xs : List Byte} {k : Nat} {e : Int} (h : Rdr w base g xs k e) (hk : FB w w') : Rdr w' base g xs k e := by
  obtain ⟨A, c, h1, h2, h3, h4, h5⟩ := h.row
  exact ⟨⟨A, c, (hk.block _ h.lt).trans h1, h2, h3, hk.rd h4, h5⟩, h.le, h.bg, h.er⟩
/-- The place, or the error, is written. -/
theorem Rdr.put {w : World} {base g : Nat} {xs : List Byte} {k : Nat} {e : Int} (h : Rdr w base g xs k e) (k' : Nat) (hk : k' ≤ xs.length) : Rdr (w.setCell ⟨g, 1, none⟩ (.int .i64 k')) base g xs k' e := by
  obtain ⟨A, c, h1, h2, h3, h4, h5⟩ := h.row
  refine ⟨⟨A, c, ?_, h2, h3, (TB.set w 1 _).rd h4 (fun ad e => by have := h5 ad e; omega), h5⟩, hk, h.bg, h.er⟩
  rw [heap_setCell_same w g 1 _ _ _ h1]
  rfl
theorem Rdr.fail {w : World} {base g : Nat} {xs : List Byte} {k : Nat} {e : Int} (h : Rdr w base g xs k e) (e' : Int) (he : -9223372036854775808 ≤ e' ∧ e' ≤ 9223372036854775807) : Rdr (w.setCell ⟨g, 2, none⟩ (.int .i64 e')) base g xs k e' := by
  obtain ⟨A, c, h1, h2, h3, h4, h5⟩ := h.row
  refine ⟨⟨A, c, ?_, h2, h3, (TB.set w 2 _).rd h4 (fun ad e => by have := h5 ad e; omega), h5⟩, h.le, h.bg, he⟩
  rw [heap_setCell_same w g 2 _ _ _ h1]
  rfl
/-- What the walk is given of a reader: its four cells, which may be written. -/
theorem Rdr.cells {w : World} {base g : Nat} {xs : List Byte} {k : Nat} {e : Int} (h : Rdr w base g xs k e) : ∃ A c,
    w.cell? ⟨g, 0, none⟩ = some (.slice A xs.length c) ∧ w.cell? ⟨g, 1, none⟩ = some (.int .i64 k) ∧ w.cell? ⟨g, 2, none⟩ = some (.int .i64 e) ∧ w.cell? ⟨g, 3, none⟩ = some (.bool true) ∧
    w.frozen? ⟨g, 1, none⟩ = false ∧ w.frozen? ⟨g, 2, none⟩ = false ∧ xs.length ≤ c ∧ c ≤ maxLen ∧ Hid (Rd w A xs) ∧ Hid (∀ ad, A = some ad → base ≤ ad.block ∧ ad.block < g) := by
  obtain ⟨A, c, h1, h2, h3, h4, h5⟩ := h.row
  exact ⟨A, c, by rw [cell_of_row _ _ _ _ _ _ h1]; rfl, by rw [cell_of_row _ _ _ _ _ _ h1]; rfl, by rw [cell_of_row _ _ _ _ _ _ h1]; rfl, by rw [cell_of_row _ _ _ _ _ _ h1]; rfl, frozen_row _ h1 _, frozen_row _ h1 _, h2, h3, h4, h5⟩

set_option maxRecDepth 100000 in
set_option maxHeartbeats 400000 in
theorem oct_New (xs : List Byte) (A : Option Addr) (n c : Nat) (w : World) (hn : n = xs.length) (hm : xs.length ≤ 140737488355328) (hr : Rd w A xs) :
    Calls Try.prog 40 #[.slice A n c] w fun e w' => ∃ g, e = .returned (.pointer (some ⟨g, 0, none⟩)) ∧ Rdr w' w.heap.size g xs 0 0 ∧ Below w.heap.size w w' := by
  subst hn
  have HR := Lib.hid hr
  clear hr
  go_enter Try.func40, Try.ntmps40
  go_wp2_with fail
  refine (sl_Clone xs A _ c _ rfl hm HR.out).mono ?_
  rintro e w1 ⟨A', c', rfl, ho, hb⟩
  have HO0 := Lib.hid ho
  have HB0 := Lib.hid hb
  clear ho hb
  go_wp2
  go_ret
  obtain ⟨h1, h2, h3, -, h5⟩ := Own.info HO0.out
  refine ⟨w1.heap.size, rfl, ⟨⟨A', c', heap_alloc_new _ _, h1, h2, h3.alloc _, h5⟩, by omega, FB.le HB0.out, by omega⟩, FB.alloc HB0.out _⟩

set_option maxRecDepth 100000 in
set_option maxHeartbeats 400000 in
theorem oct_made {xs : List Byte} {base g k : Nat} {er : Int} {w : World} (h : Rdr w base g xs k er) :
    Calls Try.prog 78 #[.pointer (some ⟨g, 0, none⟩)] w fun e w' => e = .returned (.bool true) ∧ w = w' := by
  obtain ⟨A, c, h0, h1, h2, h3, f1, f2, hc, hm, HR, HB⟩ := h.cells
  clear h
  go_enter Try.func78, Try.ntmps78
  go_wp2
  go_ret
  exact ⟨rfl, rfl⟩
set_option maxRecDepth 100000 in
set_option maxHeartbeats 400000 in
theorem oct_ready {xs : List Byte} {base g k : Nat} {er : Int} {w : World} (h : Rdr w base g xs k er) :
    Calls Try.prog 64 #[.pointer (some ⟨g, 0, none⟩)] w fun e w' => e = .returned (.bool (er == 0)) ∧ w = w' := by
  obtain ⟨A, c, h0, h1, h2, h3, f1, f2, hc, hm, HR, HB⟩ := h.cells
  have H := Lib.hid h
  clear h
  go_enter Try.func64, Try.ntmps64
  go_wp2_with fail
  refine (oct_made H.out).mono ?_
  rintro e w1 ⟨rfl, rfl⟩
  go_wp2
  go_ret
  exact ⟨rfl, rfl⟩
set_option maxRecDepth 100000 in
set_option maxHeartbeats 400000 in
theorem oct_fail {xs : List Byte} {base g k : Nat} {er : Int} {w : World} (h : Rdr w base g xs k er) (e' : Int) :
    Calls Try.prog 65 #[.pointer (some ⟨g, 0, none⟩), .int .i64 e'] w fun e w' => e = .returned (.tuple #[]) ∧ w.setCell ⟨g, 2, none⟩ (.int .i64 e') = w' := by
  obtain ⟨A, c, h0, h1, h2, h3, f1, f2, hc, hm, HR, HB⟩ := h.cells
  clear h
  go_enter Try.func65, Try.ntmps65
  go_wp2
  exact bodyPost_end (results_none rfl _ _ _) rfl ⟨rfl, rfl⟩
end Go.Proofs.Ytihljjfnjclefaa
/- A reader: the walks through Fixed, Word. -/
set_option linter.unusedVariables false
set_option linter.unusedSimpArgs false
namespace Go.Proofs.Ytihljjfnjclefaa
open Go.ChangeShapes Go.WideShapes Go.ChangeAt Go.RowKit
attribute [local go_sem] nb_nonneg nb_lt8 nb_lt64

/-- x[k:k+n]. -/
theorem cut_mid (A : Option Addr) (c : Nat) (xs : List Byte) (k n : Nat) (hk : k + n ≤ xs.length) (hc : xs.length ≤ c) :
    ∃ A', (∀ W, (Instr.slice 22 (.slice A xs.length c) (some (.int .i64 (k : Int))) (some (.int .i64 ((k : Int) + (n : Int)))) none).run Try.prog W = .ok (.slice A' n (c - k)) W) ∧ (∀ w, Rd w A xs → Rd w A' ((xs.drop k).take n)) := by
  obtain ⟨i, hi, _, hsz, _⟩ := info_parts info_u8
  refine ⟨if c = k then A else A.map (·.add k), fun W => ?_, fun w h => ?_⟩
  · have hel : Try.prog.elem 22 = 5 := by simp [Program.elem, Try.underlying22]
    have hu : Try.prog.underlying 22 = some (.slice (Try.prog.elem 22)) := by rw [hel]; exact Try.underlying22
    rw [run_slice_lh W 22 A xs.length c hu .i64 .i64 (k : Int) ((k : Int) + (n : Int)) (Int.natCast_nonneg _) (by omega) (by omega), hel]
    simp [sizeOf, typeInfo, hi, hsz, sliced, Result.andThen]
    omega
  · by_cases hck : c = k
    · have : n = 0 := by omega
      subst this
      rw [List.take_zero]; exact Rd.nil _ _
    · rw [if_neg hck]
      apply Rd.take
      intro j hj
      simp only [vbs_length, List.length_drop] at hj
      obtain ⟨b, o, rfl, hb, hcell⟩ := h.form (by omega)
      refine ⟨b, o + k, ?_, ?_⟩
      · have : (⟨b, o, none⟩ : Addr).add k = ⟨b, o + k, none⟩ := by unfold Addr.add; split <;> simp_all
        simp [this]
      · have := hcell (k + j) (by omega)
        rw [Nat.add_assoc, this]
        simp [vbs]
theorem Rdr.cellsF {w : World} {base g : Nat} {xs : List Byte} {k : Nat} {e : Int} (h : Rdr w base g xs k e) : ∃ A c,
    Hid (∀ W, Below w.heap.size w W → W.cell? ⟨g, 0, none⟩ = some (.slice A xs.length c) ∧ W.cell? ⟨g, 1, none⟩ = some (.int .i64 k) ∧ W.cell? ⟨g, 2, none⟩ = some (.int .i64 e) ∧ W.cell? ⟨g, 3, none⟩ = some (.bool true) ∧
    W.frozen? ⟨g, 1, none⟩ = false ∧ W.frozen? ⟨g, 2, none⟩ = false) ∧ xs.length ≤ c ∧ c ≤ maxLen ∧ Hid (Rd w A xs) ∧ Hid (∀ ad, A = some ad → base ≤ ad.block ∧ ad.block < g) := by
  obtain ⟨A, c, h1, h2, h3, h4, h5⟩ := h.row
  refine ⟨A, c, fun W hW => ?_, h2, h3, h4, h5⟩
  have h1 : W.heap[g]? = _ := (FB.block (w0 := w) hW g h.lt).trans h1
  exact ⟨by rw [cell_of_row _ _ _ _ _ _ h1]; rfl, by rw [cell_of_row _ _ _ _ _ _ h1]; rfl, by rw [cell_of_row _ _ _ _ _ _ h1]; rfl, by rw [cell_of_row _ _ _ _ _ _ h1]; rfl, frozen_row _ h1 _, frozen_row _ h1 _⟩

set_option maxRecDepth 100000 in
set_option maxHeartbeats 1000000 in
/-- So many bytes that are there. -/
theorem oct_Fixed_ok {xs : List Byte} {base g k : Nat} {w : World} (h : Rdr w base g xs k 0) (z : Int) (n : Nat) (hz : max 0 z = (n : Int)) (hn : k + n ≤ xs.length) (hl : xs.length ≤ 100000000000000) :
    Calls Try.prog 66 #[.pointer (some ⟨g, 0, none⟩), .int .i64 z] w fun e w' => ∃ v, e = .returned v ∧ Own w' w.heap.size v ((xs.drop k).take n) ∧ Rdr w' base g xs (k + n) 0 ∧ TB g w w' := by
  have hmax : ∀ (ts : Array TypeId) (t : TypeId) (W : World), (Builtin.max_ ts t #[.int .i64 0, .int .i64 z]).run Try.prog W = .ok (.int .i64 (n : Int)) W := fun ts t W => by
    rw [← hz, run_max_int2]; congr 2; split <;> omega
  have H := Lib.hid h
  obtain ⟨A, c, HQ, hc, hcm, HR, HB⟩ := h.cellsF
  obtain ⟨A', hcut, hcr⟩ := cut_mid A c xs k n hn hc
  have HCR := Lib.hid (hcr w HR.out)
  have hlen : ((xs.drop k).take n).length = n := by rw [List.length_take, List.length_drop]; omega
  have HLEN := Lib.hid hlen
  have hk0 : k ≤ xs.length := by omega
  have hwr : IntKind.i64.wrap ((xs.length : Int) - (k : Int)) = (xs.length : Int) - (k : Int) := by rw [IntKind.wrap_i64]; omega
  have hd : decide ((xs.length : Int) - (k : Int) < (n : Int)) = false := by simp; omega
  have hwa : IntKind.i64.wrap ((k : Int) + (n : Int)) = (k : Int) + (n : Int) := by rw [IntKind.wrap_i64]; omega
  clear h hcr hlen hz
  go_enter Try.func66, Try.ntmps66
  go_wp2_with fail
  refine (oct_ready H.out).mono ?_
  rintro e w1 ⟨rfl, rfl⟩
  go_wp2_with fail
  obtain ⟨W0, hW0⟩ : ∃ W0 : World, W0 = w := ⟨_, rfl⟩
  subst hW0
  refine region_sch (E := FB) ((0, true) :: (1, true) :: (2, true) :: (3, true) :: (4, true) :: (5, true) :: (6, true) :: (7, true) :: (8, true) :: (9, true) :: (10, true) :: (11, true) :: []) (by kernel_rfl) FB.refl fb_trans (fun _ _ d _ _ h => by cases d <;> exact h) (by kernel_rfl) ?_
  intro ops hops0
  have hops := Lib.hid hops0
  clear hops0
  have HF : FB W0 W0.drew := (FB.refl _).drew
  generalize W0.drew = wF at *
  repeat (refine sch_take (o := ?_) (v := ?_) (a' := ?_) (at_of hops.out ?_) ?_ (fun W hW => ?_) ?_ ?_; rotate_left 3; (focus (simp only [List.getElem?_toArray, List.getElem?_cons_zero, List.getElem?_cons_succ]; rfl)); (focus (rw [hops.out]; rfl)); (focus (obtain ⟨q0, q1, q2, q3, q4, q5⟩ := HQ.out W (HF.trans hW); go_simp; with_reducible rfl)); (focus (simp only [Act.put, List.setIfInBounds_toArray, List.set_cons_zero, List.set_cons_succ]; rfl)))
  refine sch_done ?_
  clear hops
  have HF0 := Lib.hid HF
  obtain ⟨q0, q1, q2, q3, q4, q5⟩ := HQ.out wF HF
  clear HF
  go_wp2_with fail
  have HQ1 := Lib.hid (fun W (hW : FB wF W) => HQ.out W (Below.trans HF0.out (Below.mono hW (FB.le HF0.out))))
  have HRF := Lib.hid ((FB.rd (w0 := W0) HF0.out HR.out))
  have HCF := Lib.hid ((FB.rd (w0 := W0) HF0.out HCR.out))
  clear q0 q1 q2 q3 q4 q5
  generalize hwF : wF = W1 at *
  clear hwF
  refine region_sch (E := Below (W1.heap.size)) ((1, true) :: (2, true) :: (3, true) :: (4, true) :: (5, true) :: (6, true) :: (7, true) :: (8, true) :: (9, true) :: (10, true) :: (11, true) :: (12, true) :: (13, true) :: (14, true) :: (15, true) :: (0, false) :: (16, false) :: (17, true) :: []) (by kernel_rfl) (Below.refl _) (fun _ _ _ h k => Below.trans h k) (fun _ _ d _ _ h => by cases d <;> exact h) (by kernel_rfl) ?_
  intro ops hops0
  have hops := Lib.hid hops0
  clear hops0
  have HF : Below (W1.heap.size) W1 W1.drew := (Below.refl _ _).drew
  generalize W1.drew = wF1 at *
  repeat (refine sch_take (o := ?_) (v := ?_) (a' := ?_) (at_of hops.out ?_) ?_ (fun W hW => ?_) ?_ ?_; rotate_left 3; (focus (simp only [List.getElem?_toArray, List.getElem?_cons_zero, List.getElem?_cons_succ]; rfl)); (focus (rw [hops.out]; rfl)); (focus (obtain ⟨q0, q1, q2, q3, q4, q5⟩ := HQ1.out W (HF.trans hW); have q := hcut W; go_simp; with_reducible rfl)); (focus (simp only [Act.put, List.setIfInBounds_toArray, List.set_cons_zero, List.set_cons_succ]; rfl)))
  have hle : W1.heap.size ≤ wF1.heap.size := HF.size
  have HLE := Lib.hid hle
  clear hle
  (refine sch_run (o := ?_) (v := ?_) (a' := ?_) (w' := ?_) (at_of hops.out ?_) ?_ ?_ ?_ ?_ ?_; rotate_left 4; (focus (simp only [List.getElem?_toArray, List.getElem?_cons_zero, List.getElem?_cons_succ]; rfl)); (focus (rw [hops.out]; rfl)); (focus (go_simp; constructor <;> with_reducible rfl)); (focus (exact (Below.refl _ _).alloc HLE.out _)); (focus (simp only [Act.put, List.setIfInBounds_toArray, List.set_cons_zero, List.set_cons_succ]; rfl)))
  (refine sch_append_bytes (o := ?_) (at_of hops.out ?_) ?_ (.tmp 25) (.tmp 40) ?_ wF1.heap.size _ [] (OwnV.lit _ wF1 [] (by simp)) ?_ A' n (c - k) ((xs.drop k).take n) HLEN.out.symm ?_ ((HCF.out.below (w' := wF1) HF).alloc _) (by rw [HLEN.out]; simp; omega) (by simp) ?_; rotate_left 1; (focus (simp only [List.getElem?_toArray, List.getElem?_cons_zero, List.getElem?_cons_succ]; rfl)); (focus (rw [hops.out]; rfl)); (focus rfl); (focus rfl); (focus rfl))
  intro v' w' ho hg _
  rw [List.nil_append] at ho
  have hE : Below W1.heap.size (wF1.alloc (.cells #[] 5)) w' := (Below.refl _ _).grown hg (by have := HLE.out; simp; omega) (by have := HLE.out; simp [Value.ownBlock]; omega)
  have HO2 := Lib.hid ho
  have HE := Lib.hid hE
  clear ho hg hE
  refine ⟨HE.out, ?_⟩
  intro a' ha'
  simp only [Act.put, List.setIfInBounds_toArray, List.set_cons_zero, List.set_cons_succ] at ha'
  subst ha'
  repeat (refine sch_take (o := ?_) (v := ?_) (a' := ?_) (at_of hops.out ?_) ?_ (fun W hW => ?_) ?_ ?_; rotate_left 3; (focus (simp only [List.getElem?_toArray, List.getElem?_cons_zero, List.getElem?_cons_succ]; rfl)); (focus (rw [hops.out]; rfl)); (focus (go_simp; with_reducible rfl)); (focus (simp only [Act.put, List.setIfInBounds_toArray, List.set_cons_zero, List.set_cons_succ]; rfl)))
  refine sch_done ?_
  have HF2 := Lib.hid (show FB W1 w' from (HF.trans (((Below.refl _ _).alloc HLE.out _).trans HE.out)))
  have HO3 := Lib.hid (Own.lower HO2.out (Nat.le_trans (FB.le HF0.out) HLE.out))
  have HR3 := Lib.hid ((H.out.fb HF0.out).fb HF2.out)
  clear hops HF HE HO2 hcut
  obtain ⟨q0, q1, q2, q3, q4, q5⟩ := HQ1.out w' HF2.out
  go_wp2
  go_ret
  have hput := HR3.out.put (k + n) hn
  rw [Int.natCast_add] at hput
  exact ⟨_, rfl, (TB.set w' 1 _).own HO3.out H.out.lt, hput, (TB.of (FB.trans HF0.out HF2.out)).trans (TB.set w' 1 _)⟩

set_option maxRecDepth 100000 in
set_option maxHeartbeats 1000000 in
/-- More bytes than there are. -/
theorem oct_Fixed_more {xs : List Byte} {base g k : Nat} {w : World} (h : Rdr w base g xs k 0) (z : Int) (hz : (xs.length : Int) - k < z) (hz2 : z ≤ 9223372036854775807) (hl : xs.length ≤ 100000000000000) :
    Calls Try.prog 66 #[.pointer (some ⟨g, 0, none⟩), .int .i64 z] w fun e w' => ∃ v, e = .returned v ∧ Own w' w.heap.size v [] ∧ Rdr w' base g xs k 5 ∧ TB g w w' := by
  have hle := h.le
  have hmax : ∀ (ts : Array TypeId) (t : TypeId) (W : World), (Builtin.max_ ts t #[.int .i64 0, .int .i64 z]).run Try.prog W = .ok (.int .i64 z) W := fun ts t W => by
    rw [run_max_int2]; congr 2; split <;> omega
  have H := Lib.hid h
  obtain ⟨A, c, HQ, hc, hcm, HR, HB⟩ := h.cellsF
  have hwr : IntKind.i64.wrap ((xs.length : Int) - (k : Int)) = (xs.length : Int) - (k : Int) := by rw [IntKind.wrap_i64]; omega
  have hd : decide ((xs.length : Int) - (k : Int) < z) = true := by simp; omega
  clear h
  go_enter Try.func66, Try.ntmps66
  go_wp2_with fail
  refine (oct_ready H.out).mono ?_
  rintro e w1 ⟨rfl, rfl⟩
  go_wp2_with fail
  obtain ⟨W0, hW0⟩ : ∃ W0 : World, W0 = w := ⟨_, rfl⟩
  subst hW0
  refine region_sch (E := FB) ((0, true) :: (1, true) :: (2, true) :: (3, true) :: (4, true) :: (5, true) :: (6, true) :: (7, true) :: (8, true) :: (9, true) :: (10, true) :: (11, true) :: []) (by kernel_rfl) FB.refl fb_trans (fun _ _ d _ _ h => by cases d <;> exact h) (by kernel_rfl) ?_
  intro ops hops0
  have hops := Lib.hid hops0
  clear hops0
  have HF : FB W0 W0.drew := (FB.refl _).drew
  generalize W0.drew = wF at *
  repeat (refine sch_take (o := ?_) (v := ?_) (a' := ?_) (at_of hops.out ?_) ?_ (fun W hW => ?_) ?_ ?_; rotate_left 3; (focus (simp only [List.getElem?_toArray, List.getElem?_cons_zero, List.getElem?_cons_succ]; rfl)); (focus (rw [hops.out]; rfl)); (focus (obtain ⟨q0, q1, q2, q3, q4, q5⟩ := HQ.out W (HF.trans hW); go_simp; with_reducible rfl)); (focus (simp only [Act.put, List.setIfInBounds_toArray, List.set_cons_zero, List.set_cons_succ]; rfl)))
  refine sch_done ?_
  clear hops
  have HF0 := Lib.hid HF
  have HR0 := Lib.hid (H.out.fb (show FB W0 wF from HF))
  obtain ⟨q0, q1, q2, q3, q4, q5⟩ := HQ.out wF HF
  clear HF
  go_wp2_with fail
  refine (oct_fail HR0.out _).mono ?_
  rintro e w1 ⟨rfl, rfl⟩
  go_wp2
  go_ret
  exact ⟨_, rfl, Own.nil _ _, HR0.out.fail 5 (by omega), (TB.of HF0.out).trans (TB.set wF 2 _)⟩
set_option maxRecDepth 100000 in
set_option maxHeartbeats 1000000 in
theorem oct_Fixed_err {xs : List Byte} {base g k : Nat} {w : World} {er : Int} (h : Rdr w base g xs k er) (he : er ≠ 0) (z : Int) :
    Calls Try.prog 66 #[.pointer (some ⟨g, 0, none⟩), .int .i64 z] w fun e w' => e = .returned (.slice none 0 0) ∧ w = w' := by
  have H := Lib.hid h
  have hd : (er == 0) = false := beq_eq_false_iff_ne.2 he
  clear h he
  go_enter Try.func66, Try.ntmps66
  go_wp2_with fail
  refine (oct_ready H.out).mono ?_
  rintro e w1 ⟨rfl, rfl⟩
  go_wp2
  go_ret
  exact ⟨rfl, rfl⟩

/-! ### Word -/
/-- The number that the lowest bytes are. -/
theorem xword_snoc (xs : List Byte) (b : Byte) (h : xs.length ≤ 7) : xword (xs ++ [b]) = xword xs ||| (b.setWidth 64) <<< (8 * xs.length) := by
  induction xs with
  | nil => simp [xword]
  | cons x xs ih =>
    simp only [List.length_cons] at h
    rw [List.cons_append, xword, ih (by omega), xword, BitVec.shiftLeft_or_distrib, ← BitVec.or_assoc]
    congr 1
    rw [List.length_cons, show 8 * (xs.length + 1) = 8 * xs.length + 8 by omega, BitVec.shiftLeft_add]
set_option maxRecDepth 100000 in
set_option maxHeartbeats 1000000 in
theorem oct_RWord_ok {xs : List Byte} {base g k : Nat} {w : World} (h : Rdr w base g xs k 0) (n : Nat) (hn8 : n = 2 ∨ n = 4 ∨ n = 8) (hn : k + n ≤ xs.length) (hl : xs.length ≤ 100000000000000) :
    Calls Try.prog 41 #[.pointer (some ⟨g, 0, none⟩), .int .i64 (n : Int)] w fun e w' => e = .returned (.int .u64 (nb (xword ((xs.drop k).take n)))) ∧ Rdr w' base g xs (k + n) 0 ∧ TB g w w' := by
  have H := Lib.hid h
  have hlen : ((xs.drop k).take n).length = n := by rw [List.length_take, List.length_drop]; omega
  have HLEN := Lib.hid hlen
  have hn9 : n ≤ 8 := by omega
  clear h hlen
  have hb : (((n : Int) == 2) = true ∨ (((n : Int) == 2) = false ∧ ((n : Int) == 4) = true) ∨ (((n : Int) == 2) = false ∧ ((n : Int) == 4) = false ∧ ((n : Int) == 8) = true)) := by
    rcases hn8 with rfl | rfl | rfl <;> simp
  clear hn8
  rcases hb with h1 | ⟨h1, h2⟩ | ⟨h1, h2, h3⟩
  all_goals
    go_enter Try.func41, Try.ntmps41
    go_wp2_with fail
    refine (oct_ready H.out).mono ?_
    rintro e w1 ⟨rfl, rfl⟩
    go_wp2_with fail
    refine (oct_Fixed_ok H.out (n : Int) n (by omega) hn hl).mono ?_
    rintro e w1 ⟨v, rfl, ho, hr, ht⟩
    obtain ⟨A, c, rfl, hc, hcm, hrd, -⟩ := Own.form ho
    rw [HLEN.out]
    have HRD := Lib.hid hrd
    have HR1 := Lib.hid hr
    have HT1 := Lib.hid ht
    clear ho hr ht hrd hc hcm
    go_wp2
    go_loop [5, 6, 7, 22] (fun s _ _ i => ∃ j : Nat, j ≤ n ∧ i = .int .i64 j ∧ s = .int .u64 (nb (xword (((xs.drop k).take n).take j)))) (fun _ _ _ i => n - (intOf i).toNat)
    case atStart => exact ⟨0, by omega, rfl, by simp [xword, nb_zero]⟩
    case round =>
      obtain ⟨j, hj, rfl, rfl⟩ := hrel
      by_cases hlt : j < n
      · obtain ⟨b0, o0, rfl, hb0, hcell⟩ := HRD.out.form (by rw [HLEN.out]; omega)
        have hc := hcell j (by rw [HLEN.out]; exact hlt)
        have HS := Lib.hid (show xword (((xs.drop k).take n).take (j + 1)) = xword (((xs.drop k).take n).take j) ||| ((((xs.drop k).take n)[j]'(by rw [HLEN.out]; exact hlt)).setWidth 64) <<< (8 * j) by
          rw [List.take_succ_eq_append_getElem (by rw [HLEN.out]; exact hlt), xword_snoc _ _ (by rw [List.length_take]; omega), show (((xs.drop k).take n).take j).length = j by rw [List.length_take, HLEN.out, Nat.min_eq_left hj]])
        clear hcell
        generalize ((xs.drop k).take n)[j]'(by rw [HLEN.out]; exact hlt) = y at *
        generalize xword (((xs.drop k).take n).take j) = s at *
        have hsh : IntKind.u64.wrap (nb y * 2 ^ (8 * j)) = nb (y.setWidth 64 <<< (8 * j)) := by rw [← wrap_shl, nb_setWidth y (by omega)]
        have hor := bits_or64 s (y.setWidth 64 <<< (8 * j)) (Nat.le_refl _) (Nat.le_refl _)
        rw [BitVec.setWidth_eq, BitVec.setWidth_eq] at hor
        unfold vb at hc
        have hwy : IntKind.u64.wrap (nb y) = nb y := by rw [wrap_u64]; exact Int.emod_eq_of_lt (nb_nonneg _) (by have := nb_lt8 y; omega)
        go_wp2
        go_round
        case rel => exact ⟨j + 1, by omega, by go_num, by rw [HS.out, ← hor, ← hsh]⟩
        case measure => simp [intOf]; omega
      · obtain rfl : j = n := by omega
        go_wp2
        go_ret
        refine ⟨?_, HR1.out, HT1.out⟩
        have : (((xs.drop k).take j).take j) = (xs.drop k).take j := List.take_of_length_le (by rw [HLEN.out]; omega)
        rw [this]
        rfl
end Go.Proofs.Ytihljjfnjclefaa
/- Strings: bytes as a string, a string as bytes. -/
set_option linter.unusedVariables false
set_option linter.unusedSimpArgs false
namespace Go.Proofs.Ytihljjfnjclefaa
open Go.ChangeShapes Go.WideShapes Go.ChangeAt Go.RowKit

/-- These bytes as a string. A plain definition. -/
def sb (xs : List Byte) : ByteArray := ⟨(xs.map UInt8.ofBitVec).toArray⟩
theorem sb_size (xs : List Byte) : (sb xs).size = xs.length := by simp [sb, ByteArray.size]
theorem sb_inj {xs ys : List Byte} : sb xs = sb ys ↔ xs = ys := by
  constructor
  · intro h
    simp only [sb, ByteArray.mk.injEq] at h
    have h := congrArg Array.toList h
    simp only [List.toList_toArray] at h
    exact (List.map_inj_right (fun a b e => by cases e; rfl)).1 h
  · rintro rfl; rfl
theorem bytes_toList_inj {a b : ByteArray} (h : a.toList = b.toList) : a = b := by
  rw [ByteArray.toList_eq, ByteArray.toList_eq] at h
  have h2 := Array.toList_inj.1 h
  cases a; cases b; exact congrArg _ h2
theorem sb_beq (xs ys : List Byte) : ((sb xs).toList == (sb ys).toList) = (xs == ys) := by
  rw [Bool.eq_iff_iff]
  simp only [beq_iff_eq]
  exact ⟨fun h => sb_inj.1 (bytes_toList_inj h), fun h => by rw [h]⟩

theorem run_string {w : World} {A : Option Addr} {xs : List Byte} (c : Nat) (hr : Rd w A xs) : (convert 22 9 (.slice A xs.length c)).run Try.prog w = .ok (.string (sb xs)) w := by
  cases A with
  | none =>
    have hx : xs = [] := by
      cases xs with
      | nil => rfl
      | cons y ys => obtain ⟨b, o, e, _⟩ := hr 0 (by simp [vbs]); cases e
    subst hx
    exact Lib.run_convert_nil_bytes w 22 9 5 c Try.underlying22 Try.underlying5 Try.underlying9
  | some ad =>
    have h := run_convert_bytes_back (P := Try.prog) w 22 9 5 ad c (xs.map UInt8.ofBitVec) Try.underlying22 Try.underlying5 Try.underlying9 (fun j hj => by
      rw [List.length_map] at hj
      have := RdV.adds hr j (vb xs[j]) (by rw [vbs_get? xs j hj])
      rw [this]
      simp [vb, nb])
    rw [List.length_map] at h
    exact h
theorem run_bytes (w : World) (xs : List Byte) (hl : xs.length ≤ maxLen) : ∃ c W', (convert 9 22 (.string (sb xs))).run Try.prog w = .ok (.slice (some ⟨w.heap.size, 0, none⟩) xs.length c) W' ∧ Rd W' (some ⟨w.heap.size, 0, none⟩) xs ∧ FB w W' ∧ xs.length ≤ c ∧ c ≤ maxLen := by
  have h := run_bytes_of_string (P := Try.prog) w 9 22 5 (sb xs) Try.underlying9 Try.underlying22 Try.underlying5
  rw [sb_size] at h
  refine ⟨_, _, h, ?_, ((FB.refl w).drew).alloc _, grownCap_ge w _ _ _, grownCap_le_maxLen w _ 0 _ (by rw [maxLen_eq] at hl; rw [maxLen_eq]; omega)⟩
  intro i hi
  rw [vbs_length] at hi
  refine ⟨w.heap.size, 0, rfl, ?_⟩
  have hnew := heap_alloc_new w.drew (.cells (bytesRow (sb xs) (grownCap w xs.length 0 5)) 5 ((bytesRow (sb xs) (grownCap w xs.length 0 5)).size, (bytesRow (sb xs) (grownCap w xs.length 0 5)).size + 1))
  rw [cell_of_row _ w.heap.size _ _ _ _ hnew]
  rw [vbs_get xs i hi]
  unfold bytesRow
  rw [Nat.zero_add, Array.getElem?_append_left (by simp [sb, hi])]
  simp [sb, hi, vb, nb]
end Go.Proofs.Ytihljjfnjclefaa
/- page: what the walks use. -/
set_option linter.unusedVariables false
set_option linter.unusedSimpArgs false
namespace Go.Proofs.Ytihljjfnjclefaa
open Go.ChangeShapes Go.WideShapes Go.ChangeAt Go.RowKit
attribute [local go_sem] nb_nonneg nb_lt8 nb_lt64
set_option maxRecDepth 100000

theorem results_cell2 {P : Program} {fn : Func} {a : Tmp} {ty : TypeId} {u : Tmp} (h : fn.results = #[.cell a ty, .tmp u]) (tmps : Array Value) (g : Nat) (hg : tmps.getD a undef = .pointer (some ⟨g, 0, none⟩)) (w : World) (v : Value)
    (hl : (loadVar ty ⟨g, 0, none⟩).run P w = .ok v w) : (results fn tmps).run P w = .ok (.tuple #[v, tmps.getD u undef]) w := by
  have hg' : tmps[a]?.getD undef = .pointer (some ⟨g, 0, none⟩) := by simpa using hg
  simp [results, h, hg', asAddr, hl]
theorem FB.setRow {w0 w : World} (h : FB w0 w) {g : Nat} (hg : w0.heap.size ≤ g) (cs : Array Value) : FB w0 (w.setRow g cs) := below_setRow h hg cs
theorem TB.setRow (g : Nat) (w : World) (cs : Array Value) : TB g w (w.setRow g cs) := ⟨rfl, rfl, rfl, by simp, fun k _ hk => setRow_other w g k cs (fun e => hk (by simp [e]))⟩
theorem row2 {W : World} {g : Nat} {a b : Value} {t : TypeId} {fr : Nat × Nat} (h : W.heap[g]? = some (.cells #[a, b] t fr)) : W.cell? ⟨g, 0, none⟩ = some a ∧ W.cell? ⟨g, 1, none⟩ = some b := by
  refine ⟨?_, ?_⟩ <;> (rw [cell_of_row _ _ _ _ _ _ h]; rfl)
theorem prow3 {W : World} {g : Nat} {a b c : Value} {t : TypeId} {fr : Nat × Nat} (h : W.heap[g]? = some (.cells #[a, b, c] t fr)) : W.cell? ⟨g, 0, none⟩ = some a ∧ W.cell? ⟨g, 1, none⟩ = some b ∧ W.cell? ⟨g, 2, none⟩ = some c := by
  refine ⟨?_, ?_, ?_⟩ <;> (rw [cell_of_row _ _ _ _ _ _ h]; rfl)
theorem OwnV.head0 {e : TypeId} {w : World} {base n : Nat} {A : Option Addr} {c : Nat} {vs : List Value} (h : OwnV e w base (.slice A n c) vs) (hn : 0 < vs.length) : ∃ g, A = some ⟨g, 0, none⟩ ∧ base ≤ g ∧ g < w.heap.size := by
  rcases h.2 with ⟨h', h0⟩ | ⟨g, cap, cur, h', hb, hg, _⟩
  · omega
  · simp only [Value.slice.injEq] at h'
    exact ⟨g, h'.1, hb, (Array.getElem?_eq_some_iff.1 hg).1⟩
theorem bl_cell {N : Nat} {w W : World} {a : Addr} {v : Value} (h : Below N w W) (hc : w.cell? a = some v) (ha : a.block < N) : W.cell? a = some v := (Below.cell h ha).trans hc
theorem ts_grownC {g : Nat} {w w' : World} {o : Option Nat} (h : w.grownBy w' o) : TS (g :: o.toList) w w' :=
  ⟨h.os, h.tape, h.output, h.size, fun k hk hn => h.block k hk (fun e => hn (by rw [← e]; simp))⟩
theorem sch_storeR {P : Program} {ops : Array Oper} {Q : Exit → Act → World → Prop} {E : World → World → Prop} {i : Nat} {σ : List (Nat × Bool)} {o : Oper} {a : Act} {w w' : World} (hi : ops[i]? = some o) (hw : Region.wanted o (yielded ops a.tmps) = true) (ty : TypeId) (x y : Operand) (ho : o.op = .store ty x y) (hd : o.dst = none)
    (vx v : Value) (hx : a.eval x = vx) (hy : a.eval y = v) (hr : (Instr.storeAt ty vx v).run P w = .ok () w') (hE : E w w') (h : wpSch P ops Q E σ a w') : wpSch P ops Q E ((i, false) :: σ) a w := by
  refine sch_eff hi hw fun K hK => ?_
  unfold Oper.wp execOp
  simp only [ho, Sem.run_bind, Sem.run_pure, Result.andThen_ok, hx, hy, hr]
  refine hK _ _ hE ?_
  rw [hd]; exact h
/-- A page, as a value. -/
def pgV (K : Int) (n : BitVec 32) (A : Option Addr) (l c : Nat) : Value := .agg #[.int .i64 K, .int .u32 (nb n), .slice A l c]
theorem pg_load {w : World} {g : Nat} {x y z : Value} (hw : w.heap[g]? = some (.cells #[x, y, z] 71 (0, 0))) : (loadVar 71 ⟨g, 0, none⟩).run Try.prog w = .ok (.agg #[x, y, z]) w :=
  run_loadVar_row w g _ _ _ _ _ hw Try.underlying71 rfl (by kernel_rfl)
theorem pg_ret {fn : Func} {a : Tmp} {u : Tmp} (h : fn.results = #[.cell a 71, .tmp u]) (tmps : Array Value) (g : Nat) (hg : tmps.getD a undef = .pointer (some ⟨g, 0, none⟩)) (w : World) {x y z : Value}
    (hw : w.heap[g]? = some (.cells #[x, y, z] 71 (0, 0))) : (results fn tmps).run Try.prog w = .ok (.tuple #[.agg #[x, y, z], tmps.getD u undef]) w :=
  results_cell2 h tmps g hg w _ (pg_load hw)
theorem pg_store {W : World} {g : Nat} {a b c : Value} (x y z : Value) (h : W.heap[g]? = some (.cells #[a, b, c] 71 (0, 0))) (h1 : (#[x, y, z]).all (·.oneCell') = true) :
    (Instr.storeAt 71 (.pointer (some ⟨g, 0, none⟩)) (.agg #[x, y, z])).run Try.prog W = .ok () (W.setRow g #[x, y, z]) := by
  simp only [Instr.storeAt, Instr.sureAddr, Sem.run_bind, Sem.run_pure, Result.andThen]
  exact run_storeVar_row W g _ _ _ _ h (by kernel_rfl) rfl h1
set_option maxHeartbeats 400000 in
theorem by_Equal (xs ys : List Byte) (A B : Option Addr) (ca cb : Nat) (w : World) (ha : Rd w A xs) (hb : Rd w B ys) :
    Calls Try.prog 63 #[.slice A xs.length ca, .slice B ys.length cb] w fun e w' => e = .returned (.bool (decide (xs = ys))) ∧ w = w' := by
  have hs1 := run_string ca ha
  have hs2 := run_string cb hb
  by_cases h : xs = ys
  · have hse : ((sb xs).toList == (sb ys).toList) = true := by rw [sb_beq]; simpa using h
    have HD := Lib.hid (decide_eq_true h)
    clear ha hb h
    go_enter Try.func63, Try.ntmps63
    go_wp2
    go_ret
    exact ⟨by rw [HD.out]; rfl, rfl⟩
  · have hse : ((sb xs).toList == (sb ys).toList) = false := by rw [sb_beq]; simpa using h
    have HD := Lib.hid (decide_eq_false h)
    clear ha hb h
    go_enter Try.func63, Try.ntmps63
    go_wp2
    go_ret
    exact ⟨by rw [HD.out]; rfl, rfl⟩
end Go.Proofs.Ytihljjfnjclefaa
/- root: what the walks use; the walks through Check, Slot. -/
set_option linter.unusedVariables false
set_option linter.unusedSimpArgs false
namespace Go.Proofs.Ytihljjfnjclefaa
open Go.ChangeShapes Go.WideShapes Go.ChangeAt Go.RowKit
attribute [local go_sem] nb_nonneg nb_lt8 nb_lt64
set_option maxRecDepth 100000

theorem prow9 {W : World} {g : Nat} {r : Rt} {t : TypeId} {fr : Nat × Nat} (h : W.heap[g]? = some (.cells (rtCs r) t fr)) :
    W.cell? ⟨g, 0, none⟩ = some (.int .u64 (nb r.E)) ∧ W.cell? ⟨g, 1, none⟩ = some (.int .u64 (nb r.P)) ∧ W.cell? ⟨g, 2, none⟩ = some (.int .u64 (nb r.T)) ∧ W.cell? ⟨g, 3, none⟩ = some (.int .u64 (nb r.S)) ∧ W.cell? ⟨g, 4, none⟩ = some (.int .u64 (nb r.L)) ∧
    W.cell? ⟨g, 5, none⟩ = some (.int .u64 (nb r.a)) ∧ W.cell? ⟨g, 6, none⟩ = some (.int .u64 (nb r.b)) ∧ W.cell? ⟨g, 7, none⟩ = some (.int .u64 (nb r.c)) ∧ W.cell? ⟨g, 8, none⟩ = some (.int .u64 (nb r.d)) := by
  refine ⟨?_, ?_, ?_, ?_, ?_, ?_, ?_, ?_, ?_⟩ <;> (rw [cell_of_row _ _ _ _ _ _ h]; rfl)
set_option maxHeartbeats 1000000 in
theorem rt_Check (r : Rt) (w : World) : Calls Try.prog 17 #[rtV r] w fun e w' => e = .returned (.int .i64 (rtChk r)) ∧ FB w w' := by
  have HF := Lib.hid ((FB.refl w).alloc (.cells (rtCs r) 29))
  have hok := @rtOk_iff r
  rw [rtHead_iff, rtHead_iff] at hok
  obtain ⟨R, hR⟩ : ∃ R, R = rtChk r := ⟨_, rfl⟩
  rw [← hR]
  unfold rtChk at hR
  generalize rtOk r = ok at *
  obtain ⟨E, P, T, S, L, a, b, c, d⟩ := r
  unfold rtV
  unfold rtCs at HF ⊢
  simp only at hok HF ⊢
  have e1 : nb E = (E.toNat : Int) := rfl
  have e2 : nb P = (P.toNat : Int) := rfl
  have e3 : nb T = (T.toNat : Int) := rfl
  have e4 : nb S = (S.toNat : Int) := rfl
  have e5 : nb L = (L.toNat : Int) := rfl
  have hbad : ¬ (1 ≤ E.toNat ∧ 8 ≤ P.toNat ∧ P.toNat ≤ 4096 ∧ L.toNat ≤ 65536 ∧ (T.toNat = 0 ∨ 2 ≤ T.toNat ∧ T.toNat < P.toNat) ∧ (S.toNat = 0 ∨ 2 ≤ S.toNat ∧ S.toNat < P.toNat)) → R = 2 := fun h => by
    rw [hR, if_neg (fun e => h (hok.1 e))]
  have hgood : (1 ≤ E.toNat ∧ 8 ≤ P.toNat ∧ P.toNat ≤ 4096 ∧ L.toNat ≤ 65536 ∧ (T.toNat = 0 ∨ 2 ≤ T.toNat ∧ T.toNat < P.toNat) ∧ (S.toNat = 0 ∨ 2 ≤ S.toNat ∧ S.toNat < P.toNat)) → R = 0 := fun h => by
    rw [hR, if_pos (hok.2 h)]
  clear hok hR
  by_cases h1 : nb E < 1
  · have HR := Lib.hid (hbad (by omega))
    clear hbad hgood e1 e2 e3 e4 e5
    go_enter Try.func17, Try.ntmps17
    go_wp2
    go_ret
    exact ⟨by rw [HR.out]; rfl, HF.out⟩
  · by_cases h2 : nb P < 8
    · have HR := Lib.hid (hbad (by omega))
      clear hbad hgood e1 e2 e3 e4 e5
      go_enter Try.func17, Try.ntmps17
      go_wp2
      go_ret
      exact ⟨by rw [HR.out]; rfl, HF.out⟩
    · by_cases h3 : 4096 < nb P
      · have HR := Lib.hid (hbad (by omega))
        clear hbad hgood e1 e2 e3 e4 e5
        go_enter Try.func17, Try.ntmps17
        go_wp2
        go_ret
        exact ⟨by rw [HR.out]; rfl, HF.out⟩
      · by_cases h4 : 65536 < nb L
        · have HR := Lib.hid (hbad (by omega))
          clear hbad hgood e1 e2 e3 e4 e5
          go_enter Try.func17, Try.ntmps17
          go_wp2
          go_ret
          exact ⟨by rw [HR.out]; rfl, HF.out⟩
        · have HB := Lib.hid (show ¬ ((T.toNat = 0 ∨ 2 ≤ T.toNat ∧ T.toNat < P.toNat) ∧ (S.toNat = 0 ∨ 2 ≤ S.toNat ∧ S.toNat < P.toNat)) → R = 2 from fun h => hbad (fun k => h ⟨k.2.2.2.2.1, k.2.2.2.2.2⟩))
          have HG := Lib.hid (fun h1 h2 => hgood ⟨by omega, by omega, by omega, by omega, h1, h2⟩)
          clear hbad hgood e1 e2 e3 e4 e5
          have i0 : ∀ w, (Instr.index 86 (.agg #[.int .u64 (nb T), .int .u64 (nb S)]) (.int .i64 0)).run Try.prog w = .ok (.int .u64 (nb T)) w := fun _ => by kernel_rfl
          have i1 : ∀ w, (Instr.index 86 (.agg #[.int .u64 (nb T), .int .u64 (nb S)]) (.int .i64 1)).run Try.prog w = .ok (.int .u64 (nb S)) w := fun _ => by kernel_rfl
          go_enter Try.func17, Try.ntmps17
          go_wp2_with fail
          go_loop [4, 28] (fun _ i => ∃ k : Nat, k ≤ 2 ∧ i = .int .i64 k ∧ Hid (1 ≤ k → (T.toNat = 0 ∨ 2 ≤ T.toNat ∧ T.toNat < P.toNat)) ∧ Hid (2 ≤ k → (S.toNat = 0 ∨ 2 ≤ S.toNat ∧ S.toNat < P.toNat))) (fun _ i => 2 - (intOf i).toNat)
          case atStart => exact ⟨0, by omega, rfl, Lib.hid (fun h => by omega), Lib.hid (fun h => by omega)⟩
          case round =>
            obtain ⟨k, hk, rfl, HT, HS⟩ := hrel
            rcases (show k = 0 ∨ k = 1 ∨ k = 2 by omega) with rfl | rfl | rfl
            · by_cases hz : T.toNat = 0
              · have hb : (nb T == 0) = true := by simp only [nb, hz]; rfl
                have HN := Lib.hid hz
                clear hz
                go_wp2
                go_round
                case rel => exact ⟨1, by omega, rfl, Lib.hid (fun _ => .inl HN.out), Lib.hid (fun h => by omega)⟩
                case measure => simp [intOf]
              · have hb : (nb T == 0) = false := by simp only [nb]; simpa using hz
                by_cases hl : nb T < 2
                · have HR := Lib.hid (HB.out (by have e : nb T = (T.toNat : Int) := rfl; omega))
                  clear hz
                  go_wp2
                  go_ret
                  exact ⟨by rw [HR.out]; rfl, HF.out⟩
                · by_cases hp : nb P ≤ nb T
                  · have HR := Lib.hid (HB.out (by have e : nb T = (T.toNat : Int) := rfl; have e : nb P = (P.toNat : Int) := rfl; omega))
                    clear hz
                    go_wp2
                    go_ret
                    exact ⟨by rw [HR.out]; rfl, HF.out⟩
                  · have HN := Lib.hid (show 2 ≤ T.toNat ∧ T.toNat < P.toNat from by have e : nb T = (T.toNat : Int) := rfl; have e : nb P = (P.toNat : Int) := rfl; omega)
                    clear hz
                    go_wp2
                    go_round
                    case rel => exact ⟨1, by omega, rfl, Lib.hid (fun _ => .inr HN.out), Lib.hid (fun h => by omega)⟩
                    case measure => simp [intOf]
            · by_cases hz : S.toNat = 0
              · have hb : (nb S == 0) = true := by simp only [nb, hz]; rfl
                have HN := Lib.hid hz
                clear hz
                go_wp2
                go_round
                case rel => exact ⟨2, by omega, rfl, Lib.hid (fun _ => HT.out (by omega)), Lib.hid (fun h => .inl HN.out)⟩
                case measure => simp [intOf]
              · have hb : (nb S == 0) = false := by simp only [nb]; simpa using hz
                by_cases hl : nb S < 2
                · have HR := Lib.hid (HB.out (by have e : nb S = (S.toNat : Int) := rfl; omega))
                  clear hz
                  go_wp2
                  go_ret
                  exact ⟨by rw [HR.out]; rfl, HF.out⟩
                · by_cases hp : nb P ≤ nb S
                  · have HR := Lib.hid (HB.out (by have e : nb S = (S.toNat : Int) := rfl; have e : nb P = (P.toNat : Int) := rfl; omega))
                    clear hz
                    go_wp2
                    go_ret
                    exact ⟨by rw [HR.out]; rfl, HF.out⟩
                  · have HN := Lib.hid (show 2 ≤ S.toNat ∧ S.toNat < P.toNat from by have e : nb S = (S.toNat : Int) := rfl; have e : nb P = (P.toNat : Int) := rfl; omega)
                    clear hz
                    go_wp2
                    go_round
                    case rel => exact ⟨2, by omega, rfl, Lib.hid (fun _ => HT.out (by omega)), Lib.hid (fun h => .inr HN.out)⟩
                    case measure => simp [intOf]
            · have HR := Lib.hid (HG.out (HT.out (by omega)) (HS.out (by omega)))
              go_wp2
              go_ret
              exact ⟨by rw [HR.out]; rfl, HF.out⟩
set_option maxHeartbeats 400000 in
theorem rt_Slot (r : Rt) (w : World) : Calls Try.prog 16 #[rtV r] w fun e w' => e = .returned (.int .i64 (rtSlot r : Nat)) ∧ FB w w' := by
  have HF := Lib.hid ((FB.refl w).alloc (.cells (rtCs r) 29))
  have HS := Lib.hid (show (rtSlot r : Int) = nb r.E % 2 from by unfold rtSlot nb; omega)
  obtain ⟨E, P, T, S, L, a, b, c, d⟩ := r
  unfold rtV
  unfold rtCs at HF ⊢
  simp only at HF HS ⊢
  have hw : IntKind.i64.wrap (nb E % 2) = nb E % 2 := by rw [IntKind.wrap_i64]; omega
  have hw2 : (nb E).tmod 2 = nb E % 2 := Int.tmod_eq_emod_of_nonneg (nb_nonneg _)
  go_enter Try.func16, Try.ntmps16
  go_wp2
  go_ret
  exact ⟨by rw [HS.out]; first | rfl | rw [hw2], HF.out⟩
set_option maxHeartbeats 400000 in
theorem r6_Slot (r : Rt) (w : World) : Calls Try.prog 22 #[rtV r] w fun e w' => e = .returned (.int .i64 (rtSlot r : Nat)) ∧ FB w w' := by
  have HF := Lib.hid ((FB.refl w).alloc (.cells (rtCs r) 29))
  have HS := Lib.hid (show (rtSlot r : Int) = nb r.E % 2 from by unfold rtSlot nb; omega)
  obtain ⟨E, P, T, S, L, a, b, c, d⟩ := r
  unfold rtV
  unfold rtCs at HF ⊢
  simp only at HF HS ⊢
  have hw : IntKind.i64.wrap (nb E % 2) = nb E % 2 := by rw [IntKind.wrap_i64]; omega
  have hw2 : (nb E).tmod 2 = nb E % 2 := Int.tmod_eq_emod_of_nonneg (nb_nonneg _)
  go_enter Try.func22, Try.ntmps22
  go_wp2
  go_ret
  exact ⟨by rw [HS.out]; first | rfl | rw [hw2], HF.out⟩
set_option maxHeartbeats 400000 in
theorem r6_head (n p : BitVec 64) (w : World) : Calls Try.prog 50 #[.int .u64 (nb n), .int .u64 (nb p)] w fun e w' => e = .returned (.bool (rtHead n p)) ∧ w = w' := by
  have HI := Lib.hid (@rtHead_iff n p)
  generalize rtHead n p = R at *
  have HT := Lib.hid (show (n.toNat = 0 ∨ (2 ≤ n.toNat ∧ n.toNat < p.toNat)) → R = true from HI.out.2)
  have HN := Lib.hid (show ¬ (n.toNat = 0 ∨ (2 ≤ n.toNat ∧ n.toNat < p.toNat)) → R = false from fun h => by cases hr : R with | false => rfl | true => exact absurd (HI.out.1 hr) h)
  have e1 : nb n = (n.toNat : Int) := rfl
  have e2 : nb p = (p.toNat : Int) := rfl
  by_cases hz : n.toNat = 0
  · have hb : (nb n == 0) = true := by rw [e1, hz]; rfl
    have HR := Lib.hid (HT.out (.inl hz))
    clear e1 e2 hz HI HT HN
    go_enter Try.func50, Try.ntmps50
    go_wp2
    go_ret
    exact ⟨by rw [HR.out]; rfl, rfl⟩
  · have hb : (nb n == 0) = false := by rw [e1]; simpa using hz
    by_cases h2 : nb n < 2
    · have HR := Lib.hid (HN.out (by omega))
      have h3 : ¬ 2 ≤ nb n := by omega
      clear e1 e2 hz HI HT HN
      go_enter Try.func50, Try.ntmps50
      go_wp2
      go_ret
      exact ⟨by rw [HR.out]; rfl, rfl⟩
    · have h3 : 2 ≤ nb n := by omega
      by_cases h4 : nb n < nb p
      · have HR := Lib.hid (HT.out (by omega))
        clear e1 e2 hz HI HT HN
        go_enter Try.func50, Try.ntmps50
        go_wp2
        go_ret
        exact ⟨by rw [HR.out]; rfl, rfl⟩
      · have HR := Lib.hid (HN.out (by omega))
        clear e1 e2 hz HI HT HN
        go_enter Try.func50, Try.ntmps50
        go_wp2
        go_ret
        exact ⟨by rw [HR.out]; rfl, rfl⟩
end Go.Proofs.Ytihljjfnjclefaa
/- root: the walks through Choose and the reference's Check and Choose. -/
set_option linter.unusedVariables false
set_option linter.unusedSimpArgs false
namespace Go.Proofs.Ytihljjfnjclefaa
open Go.ChangeShapes Go.WideShapes Go.ChangeAt Go.RowKit
attribute [local go_sem] nb_nonneg nb_lt8 nb_lt64
set_option maxRecDepth 100000

theorem rtCs_one (r : Rt) : (rtCs r).all (·.oneCell') = true := by simp [rtCs, Value.oneCell']
theorem rt_load {w : World} {g : Nat} {r : Rt} (hw : w.heap[g]? = some (.cells (rtCs r) 29 (0, 0))) : (loadVar 29 ⟨g, 0, none⟩).run Try.prog w = .ok (rtV r) w :=
  run_loadVar_row w g _ _ _ _ _ hw Try.underlying29 rfl (by kernel_rfl)
theorem rt_ret {fn : Func} {a : Tmp} {u : Tmp} (h : fn.results = #[.cell a 29, .tmp u]) (tmps : Array Value) (g : Nat) (hg : tmps.getD a undef = .pointer (some ⟨g, 0, none⟩)) (w : World) {r : Rt}
    (hw : w.heap[g]? = some (.cells (rtCs r) 29 (0, 0))) : (results fn tmps).run Try.prog w = .ok (.tuple #[rtV r, tmps.getD u undef]) w :=
  results_cell2 h tmps g hg w _ (rt_load hw)
theorem rt_size : (Try.prog.info? 29).map (·.size) = some 9 := by kernel_rfl
theorem rt_store {W : World} {g : Nat} (s r : Rt) (h : W.heap[g]? = some (.cells (rtCs s) 29 (0, 0))) :
    (Instr.storeAt 29 (.pointer (some ⟨g, 0, none⟩)) (rtV r)).run Try.prog W = .ok () (W.setRow g (rtCs r)) := by
  simp only [Instr.storeAt, Instr.sureAddr, Sem.run_bind, Sem.run_pure, Result.andThen, rtV]
  exact run_storeVar_row W g _ _ _ _ h (by kernel_rfl) rfl (rtCs_one r)
theorem rt0_cs : rtCs rt0 = #[.int .u64 0, .int .u64 0, .int .u64 0, .int .u64 0, .int .u64 0, .int .u64 0, .int .u64 0, .int .u64 0, .int .u64 0] := rfl
theorem rt_box3 (w : World) (a b : Rt) : let W := ((w.alloc (.cells (rtCs a) 29)).alloc (.cells (rtCs b) 29)).alloc (.cells (rtCs rt0) 29)
    FB w W ∧ W.heap[w.heap.size]? = some (.cells (rtCs a) 29 (0, 0)) ∧ W.heap[w.heap.size + 1]? = some (.cells (rtCs b) 29 (0, 0)) ∧ W.heap[w.heap.size + 1 + 1]? = some (.cells (rtCs rt0) 29 (0, 0)) := by
  have f2 := (FB.refl ((w.alloc (.cells (rtCs a) 29)).alloc (.cells (rtCs b) 29))).alloc (.cells (rtCs rt0) 29)
  have f1 := (FB.refl (w.alloc (.cells (rtCs a) 29))).alloc (.cells (rtCs b) 29)
  refine ⟨(((FB.refl w).alloc _).alloc _).alloc _, ?_, ?_, ?_⟩
  · rw [f2.block _ (by simp; omega), f1.block _ (by simp)]; exact heap_alloc_new _ _
  · rw [f2.block _ (by simp)]
    have := heap_alloc_new (w.alloc (.cells (rtCs a) 29)) (.cells (rtCs b) 29)
    simpa using this
  · have := heap_alloc_new ((w.alloc (.cells (rtCs a) 29)).alloc (.cells (rtCs b) 29)) (.cells (rtCs rt0) 29)
    simpa using this
set_option maxHeartbeats 2000000 in
theorem rt_Choose (a b : Rt) (p q : Bool) (w : World) : Calls Try.prog 19 #[rtV a, rtV b, .bool p, .bool q] w fun e w' => e = .returned (.tuple #[rtV (rtCh a b p q).1, .bool (rtCh a b p q).2]) ∧ FB w w' := by
  obtain ⟨hf, h1, h2, h3⟩ := rt_box3 w a b
  obtain ⟨W1, hW1⟩ : ∃ W1 : World, W1 = ((w.alloc (.cells (rtCs a) 29)).alloc (.cells (rtCs b) 29)).alloc (.cells (rtCs rt0) 29) := ⟨_, rfl⟩
  simp only [← hW1] at hf h1 h2 h3
  have HF := Lib.hid hf
  have HA := Lib.hid h1
  have HB := Lib.hid h2
  have HC := Lib.hid h3
  have HW1 := Lib.hid hW1
  obtain ⟨a0, a1, a2, a3, a4, a5, a6, a7, a8⟩ := prow9 h1
  obtain ⟨b0, b1, b2, b3, b4, b5, b6, b7, b8⟩ := prow9 h2
  have hsa := rt_store rt0 a h3
  have hsb := rt_store rt0 b h3
  have hs0 := rt_store rt0 rt0 h3
  have HEA := Lib.hid (show FB w (W1.setRow (w.heap.size + 1 + 1) (rtCs a)) ∧ (W1.setRow (w.heap.size + 1 + 1) (rtCs a)).heap[w.heap.size + 1 + 1]? = some (.cells (rtCs a) 29 (0, 0)) from ⟨hf.setRow (by omega) _, setRow_heap _ _ _ (rtCs a) _ _ h3⟩)
  have HEB := Lib.hid (show FB w (W1.setRow (w.heap.size + 1 + 1) (rtCs b)) ∧ (W1.setRow (w.heap.size + 1 + 1) (rtCs b)).heap[w.heap.size + 1 + 1]? = some (.cells (rtCs b) 29 (0, 0)) from ⟨hf.setRow (by omega) _, setRow_heap _ _ _ (rtCs b) _ _ h3⟩)
  have HE0 := Lib.hid (show FB w (W1.setRow (w.heap.size + 1 + 1) (rtCs rt0)) ∧ (W1.setRow (w.heap.size + 1 + 1) (rtCs rt0)).heap[w.heap.size + 1 + 1]? = some (.cells (rtCs rt0) 29 (0, 0)) from ⟨hf.setRow (by omega) _, setRow_heap _ _ _ (rtCs rt0) _ _ h3⟩)
  obtain ⟨R, hR⟩ : ∃ R, R = rtCh a b p q := ⟨_, rfl⟩
  have HR := Lib.hid hR
  rw [← hR]
  have HLE := Lib.hid (show (b.E.toNat ≤ a.E.toNat) ↔ nb b.E ≤ nb a.E from by unfold nb; omega)
  clear hf h1 h2 h3 hW1 hR
  unfold rtV at ⊢
  unfold rtV rtCs at hsa hsb
  unfold rtV at hs0
  rw [rt0_cs] at hs0
  go_enter Try.func19, Try.ntmps19
  go_upto_region 1 with fail
  rw [← rt0_cs, ← HW1.out]
  clear HW1
  cases p with
  | false =>
    cases q with
    | false =>
      have HRR := Lib.hid (show R = (rt0, false) from HR.out)
      go_wp2_with (refine wpList_store_by rfl _ _ _ rfl _ hs0 ?_)
      try simp only [Exit.inBlock, Exit.then]
      refine bodyPost_ret (rt_ret rfl _ (w.heap.size + 1 + 1) rfl _ HE0.out.2) rfl ?_
      rw [HRR.out]
      exact ⟨rfl, HE0.out.1⟩
    | true =>
      have HRR := Lib.hid (show R = (b, true) from HR.out)
      go_wp2_with (refine wpList_store_by rfl _ _ _ rfl _ hsb ?_)
      try simp only [Exit.inBlock, Exit.then]
      refine bodyPost_ret (rt_ret rfl _ (w.heap.size + 1 + 1) rfl _ HEB.out.2) rfl ?_
      rw [HRR.out]
      exact ⟨rfl, HEB.out.1⟩
  | true =>
    cases q with
    | false =>
      have HRR := Lib.hid (show R = (a, true) from HR.out)
      go_wp2_with (refine wpList_store_by rfl _ _ _ rfl _ hsa ?_)
      try simp only [Exit.inBlock, Exit.then]
      refine bodyPost_ret (rt_ret rfl _ (w.heap.size + 1 + 1) rfl _ HEA.out.2) rfl ?_
      rw [HRR.out]
      exact ⟨rfl, HEA.out.1⟩
    | true =>
      by_cases hle : nb b.E ≤ nb a.E
      · have HRR := Lib.hid (show R = (a, true) from by rw [HR.out]; unfold rtCh; rw [decide_eq_true (HLE.out.2 hle)]; rfl)
        go_wp2_with (refine wpList_store_by rfl _ _ _ rfl _ hsa ?_)
        try simp only [Exit.inBlock, Exit.then]
        refine bodyPost_ret (rt_ret rfl _ (w.heap.size + 1 + 1) rfl _ HEA.out.2) rfl ?_
        rw [HRR.out]
        exact ⟨rfl, HEA.out.1⟩
      · have HRR := Lib.hid (show R = (b, true) from by rw [HR.out]; unfold rtCh; rw [decide_eq_false (fun h => hle (HLE.out.1 h))]; rfl)
        go_wp2_with (refine wpList_store_by rfl _ _ _ rfl _ hsb ?_)
        try simp only [Exit.inBlock, Exit.then]
        refine bodyPost_ret (rt_ret rfl _ (w.heap.size + 1 + 1) rfl _ HEB.out.2) rfl ?_
        rw [HRR.out]
        exact ⟨rfl, HEB.out.1⟩
set_option maxHeartbeats 2000000 in
theorem r6_Choose (a b : Rt) (p q : Bool) (w : World) : Calls Try.prog 20 #[rtV a, rtV b, .bool p, .bool q] w fun e w' => e = .returned (.tuple #[rtV (rtCh a b p q).1, .bool (rtCh a b p q).2]) ∧ FB w w' := by
  obtain ⟨hf, h1, h2, h3⟩ := rt_box3 w a b
  obtain ⟨W1, hW1⟩ : ∃ W1 : World, W1 = ((w.alloc (.cells (rtCs a) 29)).alloc (.cells (rtCs b) 29)).alloc (.cells (rtCs rt0) 29) := ⟨_, rfl⟩
  simp only [← hW1] at hf h1 h2 h3
  have HF := Lib.hid hf
  have HA := Lib.hid h1
  have HB := Lib.hid h2
  have HC := Lib.hid h3
  have HW1 := Lib.hid hW1
  obtain ⟨a0, a1, a2, a3, a4, a5, a6, a7, a8⟩ := prow9 h1
  obtain ⟨b0, b1, b2, b3, b4, b5, b6, b7, b8⟩ := prow9 h2
  have hsa := rt_store rt0 a h3
  have hsb := rt_store rt0 b h3
  have hs0 := rt_store rt0 rt0 h3
  have HEA := Lib.hid (show FB w (W1.setRow (w.heap.size + 1 + 1) (rtCs a)) ∧ (W1.setRow (w.heap.size + 1 + 1) (rtCs a)).heap[w.heap.size + 1 + 1]? = some (.cells (rtCs a) 29 (0, 0)) from ⟨hf.setRow (by omega) _, setRow_heap _ _ _ (rtCs a) _ _ h3⟩)
  have HEB := Lib.hid (show FB w (W1.setRow (w.heap.size + 1 + 1) (rtCs b)) ∧ (W1.setRow (w.heap.size + 1 + 1) (rtCs b)).heap[w.heap.size + 1 + 1]? = some (.cells (rtCs b) 29 (0, 0)) from ⟨hf.setRow (by omega) _, setRow_heap _ _ _ (rtCs b) _ _ h3⟩)
  have HE0 := Lib.hid (show FB w (W1.setRow (w.heap.size + 1 + 1) (rtCs rt0)) ∧ (W1.setRow (w.heap.size + 1 + 1) (rtCs rt0)).heap[w.heap.size + 1 + 1]? = some (.cells (rtCs rt0) 29 (0, 0)) from ⟨hf.setRow (by omega) _, setRow_heap _ _ _ (rtCs rt0) _ _ h3⟩)
  obtain ⟨R, hR⟩ : ∃ R, R = rtCh a b p q := ⟨_, rfl⟩
  have HR := Lib.hid hR
  rw [← hR]
  have HLE := Lib.hid (show (b.E.toNat ≤ a.E.toNat) ↔ nb b.E ≤ nb a.E from by unfold nb; omega)
  clear hf h1 h2 h3 hW1 hR
  unfold rtV at ⊢
  unfold rtV rtCs at hsa hsb
  unfold rtV at hs0
  rw [rt0_cs] at hs0
  go_enter Try.func20, Try.ntmps20
  go_upto_region 1 with fail
  rw [← rt0_cs, ← HW1.out]
  clear HW1
  cases p with
  | false =>
    cases q with
    | false =>
      have HRR := Lib.hid (show R = (rt0, false) from HR.out)
      go_wp2_with (refine wpList_store_by rfl _ _ _ rfl _ hs0 ?_)
      try simp only [Exit.inBlock, Exit.then]
      refine bodyPost_ret (rt_ret rfl _ (w.heap.size + 1 + 1) rfl _ HE0.out.2) rfl ?_
      rw [HRR.out]
      exact ⟨rfl, HE0.out.1⟩
    | true =>
      have HRR := Lib.hid (show R = (b, true) from HR.out)
      go_wp2_with (refine wpList_store_by rfl _ _ _ rfl _ hsb ?_)
      try simp only [Exit.inBlock, Exit.then]
      refine bodyPost_ret (rt_ret rfl _ (w.heap.size + 1 + 1) rfl _ HEB.out.2) rfl ?_
      rw [HRR.out]
      exact ⟨rfl, HEB.out.1⟩
  | true =>
    cases q with
    | false =>
      have HRR := Lib.hid (show R = (a, true) from HR.out)
      go_wp2_with (refine wpList_store_by rfl _ _ _ rfl _ hsa ?_)
      try simp only [Exit.inBlock, Exit.then]
      refine bodyPost_ret (rt_ret rfl _ (w.heap.size + 1 + 1) rfl _ HEA.out.2) rfl ?_
      rw [HRR.out]
      exact ⟨rfl, HEA.out.1⟩
    | true =>
      by_cases hle : nb b.E ≤ nb a.E
      · have HRR := Lib.hid (show R = (a, true) from by rw [HR.out]; unfold rtCh; rw [decide_eq_true (HLE.out.2 hle)]; rfl)
        go_wp2_with (refine wpList_store_by rfl _ _ _ rfl _ hsa ?_)
        try simp only [Exit.inBlock, Exit.then]
        refine bodyPost_ret (rt_ret rfl _ (w.heap.size + 1 + 1) rfl _ HEA.out.2) rfl ?_
        rw [HRR.out]
        exact ⟨rfl, HEA.out.1⟩
      · have HRR := Lib.hid (show R = (b, true) from by rw [HR.out]; unfold rtCh; rw [decide_eq_false (fun h => hle (HLE.out.1 h))]; rfl)
        go_wp2_with (refine wpList_store_by rfl _ _ _ rfl _ hsb ?_)
        try simp only [Exit.inBlock, Exit.then]
        refine bodyPost_ret (rt_ret rfl _ (w.heap.size + 1 + 1) rfl _ HEB.out.2) rfl ?_
        rw [HRR.out]
        exact ⟨rfl, HEB.out.1⟩
set_option maxHeartbeats 2000000 in
theorem r6_Check (r : Rt) (w : World) : Calls Try.prog 21 #[rtV r] w fun e w' => e = .returned (.int .i64 (rtChk r)) ∧ FB w w' := by
  have HF := Lib.hid ((FB.refl w).alloc (.cells (rtCs r) 29))
  have q := prow9 (heap_alloc_new w (.cells (rtCs r) 29))
  obtain ⟨q0, q1, q2, q3, q4, -⟩ := q
  have hok := @rtOk_iff r
  obtain ⟨R, hR⟩ : ∃ R, R = rtChk r := ⟨_, rfl⟩
  rw [← hR]
  unfold rtChk at hR
  have e1 : nb r.E = (r.E.toNat : Int) := rfl
  have e2 : nb r.P = (r.P.toNat : Int) := rfl
  have e5 : nb r.L = (r.L.toNat : Int) := rfl
  have hbad : ¬ (1 ≤ r.E.toNat ∧ 8 ≤ r.P.toNat ∧ r.P.toNat ≤ 4096 ∧ r.L.toNat ≤ 65536 ∧ rtHead r.T r.P = true ∧ rtHead r.S r.P = true) → R = 2 := fun h => by
    rw [hR, if_neg (fun e => h (hok.1 e))]
  have hgood : (1 ≤ r.E.toNat ∧ 8 ≤ r.P.toNat ∧ r.P.toNat ≤ 4096 ∧ r.L.toNat ≤ 65536 ∧ rtHead r.T r.P = true ∧ rtHead r.S r.P = true) → R = 0 := fun h => by
    rw [hR, if_pos (hok.2 h)]
  clear hok hR
  unfold rtV
  obtain ⟨W1, hW1⟩ : ∃ W1 : World, W1 = w.alloc (.cells (rtCs r) 29) := ⟨_, rfl⟩
  simp only [← hW1] at HF q0 q1 q2 q3 q4
  have HW1 := Lib.hid hW1
  clear hW1
  by_cases h1 : nb r.E < 1
  · have HR := Lib.hid (hbad (by omega))
    clear hbad hgood e1 e2 e5
    go_enter Try.func21, Try.ntmps21
    go_upto_region 1 with fail
    rw [← HW1.out]
    go_wp2
    go_ret
    exact ⟨by rw [HR.out]; rfl, HF.out⟩
  · by_cases h2 : nb r.P < 8
    · have HR := Lib.hid (hbad (by omega))
      clear hbad hgood e1 e2 e5
      go_enter Try.func21, Try.ntmps21
      go_upto_region 1 with fail
      rw [← HW1.out]
      go_wp2
      go_ret
      exact ⟨by rw [HR.out]; rfl, HF.out⟩
    · by_cases h3 : 4096 < nb r.P
      · have HR := Lib.hid (hbad (by omega))
        clear hbad hgood e1 e2 e5
        go_enter Try.func21, Try.ntmps21
        go_upto_region 1 with fail
        rw [← HW1.out]
        go_wp2
        go_ret
        exact ⟨by rw [HR.out]; rfl, HF.out⟩
      · have HC1 := Lib.hid (r6_head r.T r.P)
        have HC2 := Lib.hid (r6_head r.S r.P)
        have HB := Lib.hid (show ¬ (r.L.toNat ≤ 65536 ∧ rtHead r.T r.P = true ∧ rtHead r.S r.P = true) → R = 2 from fun h => hbad (fun k => h k.2.2.2))
        have HG := Lib.hid (show (r.L.toNat ≤ 65536 ∧ rtHead r.T r.P = true ∧ rtHead r.S r.P = true) → R = 0 from fun h => hgood ⟨by omega, by omega, by omega, h⟩)
        clear hbad hgood e1 e2 e5
        generalize rtHead r.T r.P = u at *
        generalize rtHead r.S r.P = v at *
        go_enter Try.func21, Try.ntmps21
        go_upto_region 1 with fail
        rw [← HW1.out]
        go_wp2_with fail
        refine (HC1.out _).mono ?_
        rintro e w1 ⟨rfl, rfl⟩
        cases u with
        | false =>
          have HR := Lib.hid (HB.out (fun h => by simp at h))
          go_wp2
          go_ret
          exact ⟨by rw [HR.out]; rfl, HF.out⟩
        | true =>
          go_wp2_with fail
          refine (HC2.out _).mono ?_
          rintro e w1 ⟨rfl, rfl⟩
          cases v with
          | false =>
            have HR := Lib.hid (HB.out (fun h => by simp at h))
            go_wp2
            go_ret
            exact ⟨by rw [HR.out]; rfl, HF.out⟩
          | true =>
            by_cases h4 : 65536 < nb r.L
            · have HR := Lib.hid (HB.out (fun h => by unfold nb at h4; omega))
              go_wp2
              go_ret
              exact ⟨by rw [HR.out]; rfl, HF.out⟩
            · have HR := Lib.hid (HG.out ⟨by unfold nb at h4; omega, trivial, rfl⟩)
              go_wp2
              go_ret
              exact ⟨by rw [HR.out]; rfl, HF.out⟩
end Go.Proofs.Ytihljjfnjclefaa
