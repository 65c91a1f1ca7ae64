/- A reader: the walks through the other cases of Word, Block, Upto, Left, End, and of a nil reader. -/
import Derived.Test.YtjhgnohofcahbaaRdrC
set_option linter.unusedVariables false
set_option linter.unusedSimpArgs false
namespace Go.Proofs.Ytjhgnohofcahbaa
open Go.ChangeShapes Go.WideShapes Go.ChangeAt Go.RowKit
attribute [local go_sem] nb_nonneg nb_lt8 nb_lt64

set_option maxRecDepth 100000 in
set_option maxHeartbeats 400000 in
theorem oct_RNumber_err {xs : List Byte} {base g k : Nat} {w : World} {er : Int} (h : Rdr w base g xs k er) (he : er ≠ 0) :
    Calls Try.prog 72 #[.pointer (some ⟨g, 0, none⟩)] w fun e w' => e = .returned (.int .u64 0) ∧ w = w' := by
  have H := Lib.hid h
  have hd : (er == 0) = false := beq_eq_false_iff_ne.2 he
  clear h he
  go_enter Try.func72, Try.ntmps72
  go_wp2_with fail
  refine (oct_ready H.out).mono ?_
  rintro e w1 ⟨rfl, rfl⟩
  go_wp2
  go_ret
  exact ⟨rfl, rfl⟩
set_option maxRecDepth 100000 in
set_option maxHeartbeats 400000 in
theorem oct_RWord_err {xs : List Byte} {base g k : Nat} {w : World} {er : Int} (h : Rdr w base g xs k er) (he : er ≠ 0) (z : Int) :
    Calls Try.prog 55 #[.pointer (some ⟨g, 0, none⟩), .int .i64 z] w fun e w' => e = .returned (.int .u64 0) ∧ w = w' := by
  have H := Lib.hid h
  have hd : (er == 0) = false := beq_eq_false_iff_ne.2 he
  clear h he
  go_enter Try.func55, Try.ntmps55
  go_wp2_with fail
  refine (oct_ready H.out).mono ?_
  rintro e w1 ⟨rfl, rfl⟩
  go_wp2
  go_ret
  exact ⟨rfl, rfl⟩
set_option maxRecDepth 100000 in
set_option maxHeartbeats 400000 in
theorem oct_RBlock_err {xs : List Byte} {base g k : Nat} {w : World} {er : Int} (h : Rdr w base g xs k er) (he : er ≠ 0) :
    Calls Try.prog 47 #[.pointer (some ⟨g, 0, none⟩)] w fun e w' => e = .returned (.slice none 0 0) ∧ w = w' := by
  have H := Lib.hid h
  have hd : (er == 0) = false := beq_eq_false_iff_ne.2 he
  clear h he
  go_enter Try.func47, Try.ntmps47
  go_wp2_with fail
  refine (oct_ready H.out).mono ?_
  rintro e w1 ⟨rfl, rfl⟩
  go_wp2
  go_ret
  exact ⟨rfl, rfl⟩
set_option maxRecDepth 100000 in
set_option maxHeartbeats 400000 in
theorem oct_RWord_bad {xs : List Byte} {base g k : Nat} {w : World} (h : Rdr w base g xs k 0) (z : Int) (hz : ¬ (z = 2 ∨ z = 4 ∨ z = 8)) :
    Calls Try.prog 55 #[.pointer (some ⟨g, 0, none⟩), .int .i64 z] w fun e w' => e = .returned (.int .u64 0) ∧ Rdr w' base g xs k 4 ∧ TB g w w' := by
  have H := Lib.hid h
  have h2 : (z == 2) = false := beq_eq_false_iff_ne.2 (by omega)
  have h4 : (z == 4) = false := beq_eq_false_iff_ne.2 (by omega)
  have h8 : (z == 8) = false := beq_eq_false_iff_ne.2 (by omega)
  clear h hz
  go_enter Try.func55, Try.ntmps55
  go_wp2_with fail
  refine (oct_ready H.out).mono ?_
  rintro e w1 ⟨rfl, rfl⟩
  go_wp2_with fail
  refine (oct_fail H.out _).mono ?_
  rintro e w1 ⟨rfl, rfl⟩
  go_wp2
  go_ret
  exact ⟨rfl, H.out.fail 4 (by omega), TB.set w 2 _⟩
set_option maxRecDepth 100000 in
set_option maxHeartbeats 1000000 in
theorem oct_RWord_more {xs : List Byte} {base g k : Nat} {w : World} (h : Rdr w base g xs k 0) (n : Nat) (hn8 : n = 2 ∨ n = 4 ∨ n = 8) (hn : xs.length < k + n) (hl : xs.length ≤ 100000000000000) :
    Calls Try.prog 55 #[.pointer (some ⟨g, 0, none⟩), .int .i64 (n : Int)] w fun e w' => e = .returned (.int .u64 0) ∧ Rdr w' base g xs k 5 ∧ TB g w w' := by
  have H := Lib.hid h
  have hle := h.le
  clear h
  have hb : (((n : Int) == 2) = true ∨ (((n : Int) == 2) = false ∧ ((n : Int) == 4) = true) ∨ (((n : Int) == 2) = false ∧ ((n : Int) == 4) = false ∧ ((n : Int) == 8) = true)) := by
    rcases hn8 with rfl | rfl | rfl <;> simp
  have hz : (xs.length : Int) - k < (n : Int) := by omega
  have hz9 : (n : Int) ≤ 9223372036854775807 := by omega
  clear hn8
  rcases hb with h1 | ⟨h1, h2⟩ | ⟨h1, h2, h3⟩
  all_goals
    go_enter Try.func55, Try.ntmps55
    go_wp2_with fail
    refine (oct_ready H.out).mono ?_
    rintro e w1 ⟨rfl, rfl⟩
    go_wp2_with fail
    refine (oct_Fixed_more H.out (n : Int) hz hz9 hl).mono ?_
    rintro e w1 ⟨v, rfl, ho, hr, ht⟩
    obtain ⟨A, c, rfl, hc, hcm, hrd, -⟩ := Own.form ho
    have HR1 := Lib.hid hr
    have HT1 := Lib.hid ht
    clear ho hr ht hrd hc hcm
    go_wp2
    go_loop [5, 22] (fun s i => i = .int .i64 0 ∧ s = .int .u64 0) (fun _ _ => 0)
    case atStart => exact ⟨rfl, rfl⟩
    case round =>
      obtain ⟨rfl, rfl⟩ := hrel
      go_wp2
      go_ret
      exact ⟨rfl, HR1.out, HT1.out⟩
set_option maxRecDepth 100000 in
set_option maxHeartbeats 400000 in
theorem oct_Left {xs : List Byte} {base g k : Nat} {er : Int} {w : World} (h : Rdr w base g xs k er) (hl : xs.length ≤ 100000000000000) :
    Calls Try.prog 74 #[.pointer (some ⟨g, 0, none⟩)] w fun e w' => e = .returned (.int .i64 ((xs.length : Int) - (k : Int))) ∧ FB w w' := by
  have H := Lib.hid h
  have hle := h.le
  obtain ⟨A, c, HQ, hc, hcm, HR, HB⟩ := h.cellsF
  have hwr : IntKind.i64.wrap ((xs.length : Int) - (k : Int)) = (xs.length : Int) - (k : Int) := by rw [IntKind.wrap_i64]; omega
  clear h
  go_enter Try.func74, Try.ntmps74
  go_wp2_with fail
  refine (oct_made H.out).mono ?_
  rintro e w1 ⟨rfl, rfl⟩
  go_wp2_with fail
  obtain ⟨W0, hW0⟩ : ∃ W0 : World, W0 = w := ⟨_, rfl⟩
  subst hW0
  refine region_sch (E := FB) ((0, true) :: (1, true) :: (2, true) :: (3, true) :: (4, true) :: (5, true) :: (6, true) :: (7, true) :: (8, true) :: (9, true) :: (10, true) :: []) (by kernel_rfl) FB.refl fb_trans (fun _ _ d _ _ h => by cases d <;> exact h) (by kernel_rfl) ?_
  intro ops hops0
  have hops := Lib.hid hops0
  clear hops0
  have HF : FB W0 W0.drew := (FB.refl _).drew
  generalize W0.drew = wF at *
  repeat (refine sch_take (o := ?_) (v := ?_) (a' := ?_) (at_of hops.out ?_) ?_ (fun W hW => ?_) ?_ ?_; rotate_left 3; (focus (simp only [List.getElem?_toArray, List.getElem?_cons_zero, List.getElem?_cons_succ]; rfl)); (focus (rw [hops.out]; rfl)); (focus (obtain ⟨q0, q1, q2, q3, q4, q5⟩ := HQ.out W (HF.trans hW); go_simp; with_reducible rfl)); (focus (simp only [Act.put, List.setIfInBounds_toArray, List.set_cons_zero, List.set_cons_succ]; rfl)))
  refine sch_done ?_
  clear hops
  go_wp2
  go_ret
  exact ⟨rfl, HF⟩
/-- What End returns, and leaves. -/
def rend (xs : List Byte) (k : Nat) (er : Int) : Int := if er = 0 ∧ k < xs.length then 4 else er
set_option maxRecDepth 100000 in
set_option maxHeartbeats 1000000 in
theorem oct_End {xs : List Byte} {base g k : Nat} {er : Int} {w : World} (h : Rdr w base g xs k er) (hl : xs.length ≤ 100000000000000) :
    Calls Try.prog 50 #[.pointer (some ⟨g, 0, none⟩)] w fun e w' => e = .returned (.int .i64 (rend xs k er)) ∧ Rdr w' base g xs k (rend xs k er) ∧ TB g w w' := by
  have H := Lib.hid h
  have hle := h.le
  by_cases he : er = 0
  · subst he
    by_cases hk : k < xs.length
    · have hre : rend xs k 0 = 4 := by simp [rend, hk]
      obtain ⟨A, c, h0, h1, h2, h3, f1, f2, hc, hm, HR, HB⟩ := h.cells
      have hd : decide (0 < (xs.length : Int) - (k : Int)) = true := by simp; omega
      rw [hre]
      clear h
      go_enter Try.func50, Try.ntmps50
      go_wp2_with fail
      refine (oct_made H.out).mono ?_
      rintro e w1 ⟨rfl, rfl⟩
      go_wp2_with fail
      refine (oct_Left H.out hl).mono ?_
      rintro e w1 ⟨rfl, hf⟩
      have HF1 := Lib.hid hf
      have HR1 := Lib.hid (H.out.fb hf)
      clear hf h0 h1 h2 h3 f1 f2
      go_wp2_with fail
      refine (oct_fail HR1.out _).mono ?_
      rintro e w2 ⟨rfl, rfl⟩
      have HR2 := Lib.hid (HR1.out.fail 4 (by omega))
      have HT2 := Lib.hid ((TB.of HF1.out).trans (TB.set (g := g) w1 2 (.int .i64 4)))
      generalize w1.setCell ⟨g, 2, none⟩ (.int .i64 4) = w2 at *
      obtain ⟨A, c, h0, h1, h2, h3, f1, f2, -, -, -, -⟩ := HR2.out.cells
      go_wp2
      go_ret
      exact ⟨rfl, HR2.out, HT2.out⟩
    · have hre : rend xs k 0 = 0 := by simp [rend, hk]
      obtain ⟨A, c, h0, h1, h2, h3, f1, f2, hc, hm, HR, HB⟩ := h.cells
      have hd : decide (0 < (xs.length : Int) - (k : Int)) = false := by simp; omega
      rw [hre]
      clear h
      go_enter Try.func50, Try.ntmps50
      go_wp2_with fail
      refine (oct_made H.out).mono ?_
      rintro e w1 ⟨rfl, rfl⟩
      go_wp2_with fail
      refine (oct_Left H.out hl).mono ?_
      rintro e w1 ⟨rfl, hf⟩
      have HF1 := Lib.hid hf
      have HR1 := Lib.hid (H.out.fb hf)
      clear hf h0 h1 h2 h3 f1 f2
      obtain ⟨A, c, h0, h1, h2, h3, f1, f2, -, -, -, -⟩ := HR1.out.cells
      go_wp2
      go_ret
      exact ⟨rfl, HR1.out, TB.of HF1.out⟩
  · have hre : rend xs k er = er := by simp [rend, he]
    have hd : (er == 0) = false := beq_eq_false_iff_ne.2 he
    obtain ⟨A, c, h0, h1, h2, h3, f1, f2, hc, hm, HR, HB⟩ := h.cells
    rw [hre]
    clear h he
    go_enter Try.func50, Try.ntmps50
    go_wp2_with fail
    refine (oct_made H.out).mono ?_
    rintro e w1 ⟨rfl, rfl⟩
    go_wp2
    go_ret
    exact ⟨rfl, H.out, TB.refl _ _⟩
/-! ### Upto, Block -/
def rupto (xs : List Byte) (k : Nat) (m : BitVec 64) : BitVec 64 × Nat × Int :=
  match rnum (xs.drop k) 0 0#64 with
  | .inl x => (0#64, k, x)
  | .inr (n, s) => if m < n then (0#64, k + s, 3) else (n, k + s, 0)
def rblk (xs : List Byte) (k : Nat) : List Byte × Nat × Int :=
  match rnum (xs.drop k) 0 0#64 with
  | .inl x => ([], k, x)
  | .inr (n, s) => if xs.length - k - s < n.toNat then ([], k, 5) else ((xs.drop (k + s)).take n.toNat, k + s + n.toNat, 0)
/-- An error of a number is one. -/
theorem rnum_err : ∀ (ys : List Byte) (i : Nat) (m : BitVec 64) (x : Int), rnum ys i m = .inl x → x = 4 ∨ x = 5
  | [], i, m, x, h => by cases h; exact .inr rfl
  | y :: ys, i, m, x, h => by
    rw [rnum] at h
    split at h
    · cases h; exact .inl rfl
    · split at h
      · cases h
      · exact rnum_err ys _ _ x h
theorem rnum_len : ∀ (ys : List Byte) (i : Nat) (m n : BitVec 64) (s : Nat), rnum ys i m = .inr (n, s) → i < s ∧ s ≤ i + ys.length
  | [], i, m, n, s, h => by cases h
  | y :: ys, i, m, n, s, h => by
    rw [rnum] at h
    split at h
    · cases h
    · split at h
      · cases h; simp
      · have := rnum_len ys _ _ n s h; simp; omega
set_option maxRecDepth 100000 in
set_option maxHeartbeats 1000000 in
theorem oct_Upto {xs : List Byte} {base g k : Nat} {w : World} (h : Rdr w base g xs k 0) (hl : xs.length ≤ 100000000000000) (m : BitVec 64) :
    Calls Try.prog 48 #[.pointer (some ⟨g, 0, none⟩), .int .u64 (nb m)] w fun e w' => e = .returned (.int .u64 (nb (rupto xs k m).1)) ∧ Rdr w' base g xs (rupto xs k m).2.1 (rupto xs k m).2.2 ∧ TB g w w' := by
  have H := Lib.hid h
  have hn := oct_RNumber h hl
  have herr := rnum_err (xs.drop k) 0 0#64
  unfold rupto
  clear h
  generalize rnum (xs.drop k) 0 0#64 = R at *
  cases R with
  | inl x =>
    have hx := herr x rfl
    have hd : (x == 0) = false := beq_eq_false_iff_ne.2 (by omega)
    have HN := Lib.hid (show Calls Try.prog 72 #[.pointer (some ⟨g, 0, none⟩)] w fun e w' => e = .returned (.int .u64 0) ∧ Rdr w' base g xs k x ∧ TB g w w' from hn)
    clear hn herr hx
    simp only
    rw [nb_zero]
    go_enter Try.func48, Try.ntmps48
    go_wp2_with fail
    refine HN.out.mono ?_
    rintro e w1 ⟨rfl, hr, ht⟩
    have HR1 := Lib.hid hr
    have HT1 := Lib.hid ht
    clear hr ht
    go_wp2_with fail
    refine (oct_ready HR1.out).mono ?_
    rintro e w2 ⟨rfl, rfl⟩
    go_wp2
    go_ret
    exact ⟨rfl, HR1.out, HT1.out⟩
  | inr p =>
    obtain ⟨n, s⟩ := p
    have HN := Lib.hid (show Calls Try.prog 72 #[.pointer (some ⟨g, 0, none⟩)] w fun e w' => e = .returned (.int .u64 (nb n)) ∧ Rdr w' base g xs (k + s) 0 ∧ TB g w w' from hn)
    clear hn herr
    simp only
    by_cases hlt : m < n
    · have hd : nb m < nb n := by rw [nb_lt_nb]; exact hlt
      rw [if_pos hlt]
      simp only
      rw [nb_zero]
      clear hlt
      go_enter Try.func48, Try.ntmps48
      go_wp2_with fail
      refine HN.out.mono ?_
      rintro e w1 ⟨rfl, hr, ht⟩
      have HR1 := Lib.hid hr
      have HT1 := Lib.hid ht
      clear hr ht
      go_wp2_with fail
      refine (oct_ready HR1.out).mono ?_
      rintro e w2 ⟨rfl, rfl⟩
      go_wp2_with fail
      refine (oct_fail HR1.out _).mono ?_
      rintro e w2 ⟨rfl, rfl⟩
      go_wp2
      go_ret
      exact ⟨rfl, HR1.out.fail 3 (by omega), HT1.out.trans (TB.set w1 2 _)⟩
    · have hd : ¬ nb m < nb n := by rw [nb_lt_nb]; exact hlt
      rw [if_neg hlt]
      simp only
      clear hlt
      go_enter Try.func48, Try.ntmps48
      go_wp2_with fail
      refine HN.out.mono ?_
      rintro e w1 ⟨rfl, hr, ht⟩
      have HR1 := Lib.hid hr
      have HT1 := Lib.hid ht
      clear hr ht
      go_wp2_with fail
      refine (oct_ready HR1.out).mono ?_
      rintro e w2 ⟨rfl, rfl⟩
      go_wp2
      go_ret
      exact ⟨rfl, HR1.out, HT1.out⟩
set_option maxRecDepth 100000 in
set_option maxHeartbeats 400000 in
theorem oct_Upto_err {xs : List Byte} {base g k : Nat} {w : World} {er : Int} (h : Rdr w base g xs k er) (he : er ≠ 0) (m : Int) :
    Calls Try.prog 48 #[.pointer (some ⟨g, 0, none⟩), .int .u64 m] w fun e w' => e = .returned (.int .u64 0) ∧ w = w' := by
  have H := Lib.hid h
  have HE := Lib.hid he
  have hd : (er == 0) = false := beq_eq_false_iff_ne.2 he
  clear h he
  go_enter Try.func48, Try.ntmps48
  go_wp2_with fail
  refine (oct_RNumber_err H.out HE.out).mono ?_
  rintro e w2 ⟨rfl, rfl⟩
  go_wp2_with fail
  refine (oct_ready H.out).mono ?_
  rintro e w2 ⟨rfl, rfl⟩
  go_wp2
  go_ret
  exact ⟨rfl, rfl⟩
set_option maxRecDepth 100000 in
set_option maxHeartbeats 1000000 in
theorem oct_RBlock {xs : List Byte} {base g k : Nat} {w : World} (h : Rdr w base g xs k 0) (hl : xs.length ≤ 100000000000000) :
    Calls Try.prog 47 #[.pointer (some ⟨g, 0, none⟩)] w fun e w' => ∃ v, e = .returned v ∧ Own w' w.heap.size v (rblk xs k).1 ∧ Rdr w' base g xs (rblk xs k).2.1 (rblk xs k).2.2 ∧ TB g w w' := by
  have H := Lib.hid h
  have hn := oct_number h hl
  have hlen := rnum_len (xs.drop k) 0 0#64
  have hle := h.le
  rw [List.length_drop] at hlen
  unfold rblk
  clear h
  generalize rnum (xs.drop k) 0 0#64 = R at *
  cases R with
  | inl x =>
    have HN := Lib.hid hn
    clear hn hlen
    simp only
    go_enter Try.func47, Try.ntmps47
    go_wp2_with fail
    refine (oct_ready H.out).mono ?_
    rintro e w2 ⟨rfl, rfl⟩
    go_wp2_with fail
    refine HN.out.mono ?_
    rintro e w1 ⟨rfl, hr, ht⟩
    have HR1 := Lib.hid hr
    have HT1 := Lib.hid ht
    clear hr ht
    go_wp2
    go_ret
    exact ⟨_, rfl, Own.nil _ _, HR1.out, HT1.out⟩
  | inr p =>
    obtain ⟨n, s⟩ := p
    have HN := Lib.hid hn
    have hs := hlen n s rfl
    have hwr : IntKind.i64.wrap ((xs.length : Int) - (k : Int)) = (xs.length : Int) - (k : Int) := by rw [IntKind.wrap_i64]; omega
    have hwr2 : IntKind.i64.wrap ((xs.length : Int) - (k : Int) - (s : Int)) = (xs.length : Int) - (k : Int) - (s : Int) := by rw [IntKind.wrap_i64]; omega
    have hwr3 : IntKind.u64.wrap ((xs.length : Int) - (k : Int) - (s : Int)) = (xs.length : Int) - (k : Int) - (s : Int) := by rw [IntKind.wrap_u64]; omega
    have hnt : nb n = (n.toNat : Int) := rfl
    clear hn hlen
    simp only
    by_cases hlt : xs.length - k - s < n.toNat
    · have hd : (xs.length : Int) - (k : Int) - (s : Int) < nb n := by omega
      rw [if_pos hlt]
      simp only
      clear hlt hnt
      go_enter Try.func47, Try.ntmps47
      go_wp2_with fail
      refine (oct_ready H.out).mono ?_
      rintro e w2 ⟨rfl, rfl⟩
      go_wp2_with fail
      refine HN.out.mono ?_
      rintro e w1 ⟨rfl, hr, ht, -⟩
      obtain ⟨A, c, HQ, hc, hcm, HR, HB⟩ := hr.cellsF
      have HR1 := Lib.hid hr
      have HT1 := Lib.hid ht
      clear hr ht
      go_wp2_with fail
      obtain ⟨W0, hW0⟩ : ∃ W0 : World, W0 = w1 := ⟨_, rfl⟩
      subst hW0
      refine region_sch (E := FB) ((0, true) :: (1, true) :: (2, true) :: (3, true) :: (4, true) :: (5, true) :: (6, true) :: (7, true) :: (8, true) :: (9, true) :: (10, true) :: (11, true) :: (12, true) :: (13, true) :: (14, true) :: []) (by kernel_rfl) FB.refl fb_trans (fun _ _ d _ _ h => by cases d <;> exact h) (by kernel_rfl) ?_
      intro ops hops0
      have hops := Lib.hid hops0
      clear hops0
      have HF : FB W0 W0.drew := (FB.refl _).drew
      generalize W0.drew = wF at *
      repeat (refine sch_take (o := ?_) (v := ?_) (a' := ?_) (at_of hops.out ?_) ?_ (fun W hW => ?_) ?_ ?_; rotate_left 3; (focus (simp only [List.getElem?_toArray, List.getElem?_cons_zero, List.getElem?_cons_succ]; rfl)); (focus (rw [hops.out]; rfl)); (focus (obtain ⟨q0, q1, q2, q3, q4, q5⟩ := HQ.out W (HF.trans hW); go_simp; with_reducible rfl)); (focus (simp only [Act.put, List.setIfInBounds_toArray, List.set_cons_zero, List.set_cons_succ]; rfl)))
      refine sch_done ?_
      clear hops
      have HF2 := Lib.hid (show FB W0 wF from HF)
      have HR2 := Lib.hid (HR1.out.fb (show FB W0 wF from HF))
      clear HF
      go_wp2_with fail
      refine (oct_fail HR2.out _).mono ?_
      rintro e w2 ⟨rfl, rfl⟩
      go_wp2
      go_ret
      exact ⟨_, rfl, Own.nil _ _, HR2.out.fail 5 (by omega), (HT1.out.fb HF2.out).trans (TB.set _ 2 _)⟩
    · have hd : ¬ (xs.length : Int) - (k : Int) - (s : Int) < nb n := by omega
      have hks : k + s + n.toNat ≤ xs.length := by omega
      have hnw : IntKind.i64.wrap (nb n) = nb n := by rw [IntKind.wrap_i64]; have := nb_nonneg n; omega
      have hwa : IntKind.i64.wrap ((k : Int) + (s : Int)) = (k : Int) + (s : Int) := by rw [IntKind.wrap_i64]; omega
      have HM := Lib.hid (show max 0 (nb n) = (n.toNat : Int) by omega)
      have hksl : k + s ≤ xs.length := by omega
      rw [if_neg hlt]
      simp only
      clear hlt hnt
      go_enter Try.func47, Try.ntmps47
      go_wp2_with fail
      refine (oct_ready H.out).mono ?_
      rintro e w2 ⟨rfl, rfl⟩
      go_wp2_with fail
      refine HN.out.mono ?_
      rintro e w1 ⟨rfl, hr, ht, -⟩
      obtain ⟨A, c, HQ, hc, hcm, HR, HB⟩ := hr.cellsF
      have HR1 := Lib.hid hr
      have HT1 := Lib.hid ht
      clear hr ht
      go_wp2_with fail
      obtain ⟨W0, hW0⟩ : ∃ W0 : World, W0 = w1 := ⟨_, rfl⟩
      subst hW0
      refine region_sch (E := FB) ((0, true) :: (1, true) :: (2, true) :: (3, true) :: (4, true) :: (5, true) :: (6, true) :: (7, true) :: (8, true) :: (9, true) :: (10, true) :: (11, true) :: (12, true) :: (13, true) :: (14, true) :: []) (by kernel_rfl) FB.refl fb_trans (fun _ _ d _ _ h => by cases d <;> exact h) (by kernel_rfl) ?_
      intro ops hops0
      have hops := Lib.hid hops0
      clear hops0
      have HF : FB W0 W0.drew := (FB.refl _).drew
      generalize W0.drew = wF at *
      repeat (refine sch_take (o := ?_) (v := ?_) (a' := ?_) (at_of hops.out ?_) ?_ (fun W hW => ?_) ?_ ?_; rotate_left 3; (focus (simp only [List.getElem?_toArray, List.getElem?_cons_zero, List.getElem?_cons_succ]; rfl)); (focus (rw [hops.out]; rfl)); (focus (obtain ⟨q0, q1, q2, q3, q4, q5⟩ := HQ.out W (HF.trans hW); go_simp; with_reducible rfl)); (focus (simp only [Act.put, List.setIfInBounds_toArray, List.set_cons_zero, List.set_cons_succ]; rfl)))
      refine sch_done ?_
      clear hops
      have HF2 := Lib.hid (show FB W0 wF from HF)
      have HR2 := Lib.hid (HR1.out.fb (show FB W0 wF from HF))
      obtain ⟨q0, q1, q2, q3, q4, q5⟩ := HQ.out wF HF
      clear HF
      go_wp2_with fail
      have hput := HR2.out.put (k + s) hksl
      rw [Int.natCast_add] at hput
      have HR3 := Lib.hid hput
      have HT3 := Lib.hid ((HT1.out.fb HF2.out).trans (TB.set wF 1 (.int .i64 ((k : Int) + (s : Int)))))
      clear hput
      refine (oct_Fixed_ok HR3.out (nb n) n.toNat HM.out hks hl).mono ?_
      rintro e w2 ⟨v, rfl, ho, hr, ht⟩
      have HO4 := Lib.hid (Own.lower ho (Nat.le_trans (TB.le HT3.out) (Nat.le_refl _)))
      have HR4 := Lib.hid hr
      have HT4 := Lib.hid (HT3.out.trans ht)
      clear ho hr ht q0 q1 q2 q3 q4 q5
      go_wp2
      go_ret
      exact ⟨_, rfl, HO4.out, HR4.out, HT4.out⟩
/-! ### nil -/
set_option maxRecDepth 100000 in
set_option maxHeartbeats 400000 in
theorem oct_made_nil (w : World) : Calls Try.prog 73 #[.pointer none] w fun e w' => e = .returned (.bool false) ∧ w = w' := by
  go_enter Try.func73, Try.ntmps73
  go_wp2
  go_ret
  exact ⟨rfl, rfl⟩
set_option maxRecDepth 100000 in
set_option maxHeartbeats 400000 in
theorem oct_ready_nil (w : World) : Calls Try.prog 69 #[.pointer none] w fun e w' => e = .returned (.bool false) ∧ w = w' := by
  go_enter Try.func69, Try.ntmps69
  go_wp2_with fail
  refine (oct_made_nil _).mono ?_
  rintro e w1 ⟨rfl, rfl⟩
  go_wp2
  go_ret
  exact ⟨rfl, rfl⟩
set_option maxRecDepth 100000 in
set_option maxHeartbeats 400000 in
theorem oct_End_nil (w : World) : Calls Try.prog 50 #[.pointer none] w fun e w' => e = .returned (.int .i64 1) ∧ w = w' := by
  go_enter Try.func50, Try.ntmps50
  go_wp2_with fail
  refine (oct_made_nil _).mono ?_
  rintro e w1 ⟨rfl, rfl⟩
  go_wp2
  go_ret
  exact ⟨rfl, rfl⟩
set_option maxRecDepth 100000 in
set_option maxHeartbeats 400000 in
theorem oct_RNumber_nil (w : World) : Calls Try.prog 72 #[.pointer none] w fun e w' => e = .returned (.int .u64 0) ∧ w = w' := by
  go_enter Try.func72, Try.ntmps72
  go_wp2_with fail
  refine (oct_ready_nil _).mono ?_
  rintro e w1 ⟨rfl, rfl⟩
  go_wp2
  go_ret
  exact ⟨rfl, rfl⟩
end Go.Proofs.Ytjhgnohofcahbaa
