/- Walks and laws that the claim's last text stands on, several texts in one file: PlQ, PlT, PlU, ChD, ChE. Under the hypotheses that each theorem states. -/
import Derived.Laws.Cover3
import Derived.Test.YtoidlmhebnlnbaaDoorMCha
import Derived.Test.YtoidlmhebnlnbaaDoorMChb
import Derived.Test.YtoidlmhebnlnbaaDoorMChc
import Derived.Test.YtoidlmhebnlnbaaDoorMChd
import Derived.Test.YtoidlmhebnlnbaaDoorMChe
import Derived.Test.YtoidlmhebnlnbaaDoorMChf
import Derived.Test.YtoidlmhebnlnbaaDoorMChg
import Derived.Test.YtoidlmhebnlnbaaDoorMChh
import Derived.Test.YtoidlmhebnlnbaaDoorMChi
import Derived.Test.YtoidlmhebnlnbaaDoorMChj
import Derived.Test.YtoidlmhebnlnbaaDoorMChk
/- pool, plain: Put, Pin, Unpin, Evict, Clean, Flush, Drop, Reset and New, where no fault is set. -/
set_option linter.unusedVariables false
set_option linter.unusedSimpArgs false
namespace Go.Proofs.YtoidlmhebnlnbaaDoor
open Go.ChangeShapes Go.WideShapes Go.ChangeAt Go.RowKit
set_option maxRecDepth 100000

section
variable {n : Nat} {st : PlSt}
theorem plPut_ok (h : PlInv n st) {k : Nat} (hk : k < n / 8) {xs : List Byte} (hl : xs.length = 4096) : PlInv n (plPut n st k xs).2 ∧ (plPut n st k xs).2.fs.length = st.fs.length ∧
    (((plPut n st k xs).1 = 9 ∧ plFind st.fs k = none ∧ PlEq st (plPut n st k xs).2) ∨ ((plPut n st k xs).1 = 0 ∧ (∃ i, plFind (plPut n st k xs).2.fs k = some i) ∧ ∀ k' : Nat, plV (plPut n st k xs).2 k' = (if k' = k then xs else plV st k') ∧ plN (plPut n st k xs).2 k' = plN st k')) := by
  have ho : ¬ (pgOut n (k : Int) ∨ xs.length ≠ 4096) := fun a => by
    rcases a with a | a
    · exact pgOut_no hk a
    · exact a hl
  cases hf : plFind st.fs (k : Int) with
  | some i =>
    obtain ⟨f1, f2, f3⟩ := find_some hf
    rw [plPut_hit ho hf]
    obtain ⟨h1, h2, h3⟩ := h.turn hf { (st.fs.getD i frm0) with b := xs, dirty := true, used := true } f2 f3 hl (h.pins i) (fun a => by cases a)
    refine ⟨h1, by simp, .inr ⟨rfl, ⟨i, h2⟩, fun k' => ?_⟩⟩
    obtain ⟨a, b⟩ := h3 k'
    refine ⟨a, b.trans ?_⟩
    by_cases e : k' = k
    · subst e; rw [if_pos rfl, plN_hit hf]
    · rw [if_neg e]
  | none =>
    obtain ⟨r1, r2, r3, r4, r5⟩ := plRoom_ok h
    have rl := plRoom_len n st
    rcases hr : plRoom n st with ⟨⟨so, se⟩, st1⟩
    rw [hr] at r1 r2 r3 r4 r5 rl
    simp only at r1 r2 r3 r4 r5 rl
    cases so with
    | none =>
      rw [plPut_full ho hf hr]
      exact ⟨r1, rl, .inl ⟨r5 rfl, rfl, r2⟩⟩
    | some i =>
      obtain ⟨i1, i2, i3⟩ := r4 i rfl
      have hf1 : plFind st1.fs (k : Int) = none := miss_of (fun j a => by
        obtain ⟨b, c⟩ := r3 j a
        rw [c]; exact find_none hf j b)
      rw [plPut_new ho hf hr]
      obtain ⟨h1, h2, h3⟩ := r1.come (by rw [rl]; exact i1) i2 hk hf1 ⟨true, k, 0, true, true, xs⟩ rfl rfl hl rfl (fun a => by cases a)
      refine ⟨h1, by simpa using rl, .inr ⟨rfl, ⟨i, h2⟩, fun k' => ?_⟩⟩
      obtain ⟨a, b⟩ := h3 k'
      simp only
      rw [a, b]
      by_cases e : k' = k
      · subst e; rw [if_pos rfl, if_pos rfl]; exact ⟨rfl, (r2 k').2⟩
      · rw [if_neg e, if_neg e]; exact r2 k'
theorem plPut_emp (h : PlInv n st) {k : Nat} (hk : k < n / 8) {xs : List Byte} (hl : xs.length = 4096) {i : Nat} (hi : i < st.fs.length) (he : (st.fs.getD i frm0).is = false) : (plPut n st k xs).1 = 0 := by
  have ho : ¬ (pgOut n (k : Int) ∨ xs.length ≠ 4096) := fun a => by
    rcases a with a | a
    · exact pgOut_no hk a
    · exact a hl
  cases hf : plFind st.fs (k : Int) with
  | some i => rw [plPut_hit ho hf]
  | none =>
    obtain ⟨r1, r2⟩ := plRoom_emp (n := n) hi he
    rcases hr : plRoom n st with ⟨⟨so, se⟩, st1⟩
    rw [hr] at r1
    cases so with
    | none => exact absurd rfl r1
    | some j => rw [plPut_new ho hf hr]
theorem plPut_hitD {k : Nat} (hk : k < n / 8) {xs : List Byte} (hl : xs.length = 4096) {i : Nat} (hf : plFind st.fs (k : Int) = some i) : (plPut n st k xs).1 = 0 ∧ (plPut n st k xs).2.D = st.D := by
  have ho : ¬ (pgOut n (k : Int) ∨ xs.length ≠ 4096) := fun a => by
    rcases a with a | a
    · exact pgOut_no hk a
    · exact a hl
  rw [plPut_hit ho hf]
  exact ⟨rfl, rfl⟩
theorem plGet_lenI (h : PlInv n st) {k : Nat} (hk : k < n / 8) : (plGet n st k).2.fs.length = st.fs.length := by
  have ho := pgOut_no hk
  cases hf : plFind st.fs (k : Int) with
  | some i => rw [plGet_hit ho hf]; simp
  | none =>
    have rl := plRoom_len n st
    rcases hr : plRoom n st with ⟨⟨so, se⟩, st1⟩
    rw [hr] at rl
    cases so with
    | none => rw [plGet_full ho hf hr]; exact rl
    | some i =>
      rw [plGet_load ho hf hr]
      split
      · simpa using rl
      · exact rl
theorem plGet_emp (h : PlInv n st) {k : Nat} (hk : k < n / 8) {i : Nat} (hi : i < st.fs.length) (he : (st.fs.getD i frm0).is = false) : (plGet n st k).1.2 = 0 ∧ plGetB n st k = plV st k := by
  obtain ⟨-, -, h3⟩ := plGet_ok h hk
  rcases h3 with ⟨h3, h4⟩ | ⟨j, h3, h4, h5⟩
  · exfalso
    have ho := pgOut_no hk
    obtain ⟨r1, r2⟩ := plRoom_emp (n := n) hi he
    rcases hr : plRoom n st with ⟨⟨so, se⟩, st1⟩
    rw [hr] at r1 r2
    simp only at r2
    subst r2
    cases so with
    | none => exact absurd rfl r1
    | some j =>
      rw [plGet_load ho h4 hr, load_pg h.fuse hk, if_pos rfl] at h3
      cases h3
  · exact ⟨by rw [h3], h5⟩
theorem wrap1 {x : Int} (h0 : 0 ≤ x) (h : x < 4611686018427387904) : IntKind.i64.wrap (x + 1) = x + 1 := by
  rw [IntKind.wrap_i64]; omega
theorem wrapm {x : Int} (h0 : 0 < x) (h : x < 4611686018427387904) : IntKind.i64.wrap (x - 1) = x - 1 := by
  rw [IntKind.wrap_i64]; omega
theorem plPin_ok (h : PlInv n st) {k : Nat} (hk : k < n / 8) (hb : plN st k < 4611686018427387904) : PlInv n (plPin n st k).2 ∧ (plPin n st k).2.fs.length = st.fs.length ∧
    (((plPin n st k).1 = 9 ∧ plFind st.fs k = none ∧ PlEq st (plPin n st k).2) ∨ ((plPin n st k).1 = 0 ∧ (∃ i, plFind (plPin n st k).2.fs k = some i) ∧ ∀ k' : Nat, plV (plPin n st k).2 k' = plV st k' ∧ plN (plPin n st k).2 k' = (if k' = k then plN st k + 1 else plN st k'))) := by
  obtain ⟨g1, g2, g3⟩ := plGet_ok h hk
  have gl := plGet_lenI h hk
  unfold plPin
  rcases hg : plGet n st k with ⟨⟨so, se⟩, st1⟩
  rw [hg] at g1 g2 g3 gl
  simp only at g1 g2 g3 gl
  rcases g3 with ⟨g3, g4⟩ | ⟨i, g3, g4, g5⟩
  · cases g3
    exact ⟨g1, gl, .inl ⟨rfl, g4, g2⟩⟩
  · cases g3
    obtain ⟨f1, f2, f3⟩ := find_some g4
    have hN : (st1.fs.getD i frm0).pins = plN st k := (plN_hit g4).symm.trans (g2 k).2
    have h0 := g1.pins i
    have hw := wrap1 h0 (by rw [hN]; exact hb)
    obtain ⟨h1, h2, h3⟩ := g1.turn g4 { (st1.fs.getD i frm0) with pins := IntKind.i64.wrap ((st1.fs.getD i frm0).pins + 1) } f2 f3 (g1.len i f2) (by show 0 ≤ IntKind.i64.wrap ((st1.fs.getD i frm0).pins + 1); omega) (fun a => g1.cln i k f2 a f3)
    refine ⟨h1, by simpa using gl, .inr ⟨rfl, ⟨i, h2⟩, fun k' => ?_⟩⟩
    obtain ⟨a, b⟩ := h3 k'
    simp only
    rw [a, b]
    by_cases e : k' = k
    · subst e; rw [if_pos rfl, if_pos rfl, if_pos rfl, hw, hN]; exact ⟨(plV_hit g4).symm.trans (g2 k').1, rfl⟩
    · rw [if_neg e, if_neg e, if_neg e]; exact g2 k'
theorem plPin_hitD {k : Nat} (hk : k < n / 8) {i : Nat} (hf : plFind st.fs (k : Int) = some i) : (plPin n st k).1 = 0 ∧ (plPin n st k).2.D = st.D := by
  unfold plPin
  rw [plGet_hit (pgOut_no hk) hf]
  exact ⟨rfl, rfl⟩
theorem plUnpin_zero {k : Nat} (h : plN st k = 0) : plUnpin st k = (6, st) := by
  unfold plUnpin
  cases hf : plFind st.fs (k : Int) with
  | none => rfl
  | some i =>
    rw [plN_hit hf] at h
    simp only
    rw [if_pos h]
theorem plUnpin_pos (h : PlInv n st) {k : Nat} (h0 : 0 < plN st k) (hb : plN st k < 4611686018427387904) : (plUnpin st k).1 = 0 ∧ PlInv n (plUnpin st k).2 ∧ (plUnpin st k).2.fs.length = st.fs.length ∧
    ∀ k' : Nat, plV (plUnpin st k).2 k' = plV st k' ∧ plN (plUnpin st k).2 k' = (if k' = k then plN st k - 1 else plN st k') := by
  unfold plUnpin
  cases hf : plFind st.fs (k : Int) with
  | none => rw [plN_miss hf] at h0; omega
  | some i =>
    obtain ⟨f1, f2, f3⟩ := find_some hf
    rw [plN_hit hf] at h0 hb ⊢
    simp only
    rw [if_neg (by omega)]
    have hw := wrapm h0 hb
    obtain ⟨h1, h2, h3⟩ := h.turn hf { (st.fs.getD i frm0) with pins := IntKind.i64.wrap ((st.fs.getD i frm0).pins - 1) } f2 f3 (h.len i f2) (by show 0 ≤ IntKind.i64.wrap ((st.fs.getD i frm0).pins - 1); omega) (fun a => h.cln i k f2 a f3)
    refine ⟨rfl, h1, by simp, fun k' => ?_⟩
    obtain ⟨a, b⟩ := h3 k'
    simp only
    rw [a, b]
    by_cases e : k' = k
    · subst e; rw [if_pos rfl, if_pos rfl, if_pos rfl, hw]; exact ⟨(plV_hit hf).symm, rfl⟩
    · rw [if_neg e, if_neg e, if_neg e]; exact ⟨rfl, rfl⟩
theorem plEvict_ok (h : PlInv n st) (i : Int) : PlInv n (plEvict n st i).2 ∧ PlEq st (plEvict n st i).2 ∧ (plEvict n st i).2.fs.length = st.fs.length := by
  unfold plEvict
  split
  · exact ⟨h, PlEq.refl _, rfl⟩
  · rename_i hr
    split
    · exact ⟨h, PlEq.refl _, rfl⟩
    · rename_i hp
      obtain ⟨e1, e2, e3, -⟩ := h.evict (i := i.toNat) (by omega) (by simp only [Bool.or_eq_true, decide_eq_true_eq] at hp; exact fun a => hp (.inr a)) st.hand h.hand
      rw [if_pos e1]
      exact ⟨e2, e3, by simp⟩
/-- A frame with the page, not pinned, is evicted: the disk has it. -/
theorem plEvict_go (h : PlInv n st) {i k : Nat} (hf : plFind st.fs k = some i) (hp : plN st k = 0) : (plEvict n st i).1 = 0 ∧ plFind (plEvict n st i).2.fs k = none ∧ ((plEvict n st i).2.fs.getD i frm0).is = false ∧ pgAt (plEvict n st i).2.D k = plV st k := by
  obtain ⟨f1, f2, f3⟩ := find_some hf
  rw [plN_hit hf] at hp
  have hq : ¬ 0 < (st.fs.getD i frm0).pins := by omega
  obtain ⟨e1, e2, e3, e4⟩ := h.evict f1 hq st.hand h.hand
  have he : plEvict n st i = (0, { st with fs := st.fs.set i frm0, D := (plSave (st.fs.getD i frm0) n st.D).2.2 }) := by
    unfold plEvict
    rw [if_neg (by omega), Int.toNat_natCast, if_neg (by simp only [f2, hp]; decide), if_pos e1]
  rw [he]
  refine ⟨rfl, miss_of (fun j a b => ?_), ?_, ?_⟩
  · simp only [fr_set st.fs i frm0 f1 j] at a b
    split at a
    · cases a
    · rename_i e
      rw [if_neg e] at b
      exact e (h.uniq _ _ a f2 (by rw [b, f3]))
  · show ((st.fs.set i frm0).getD i frm0).is = false
    rw [fr_set st.fs i frm0 f1, if_pos rfl]; rfl
  · show pgAt (plSave (st.fs.getD i frm0) n st.D).2.2 k = _
    rw [e4, if_pos ⟨f2, f3⟩, plV_hit hf]
theorem plEvict_no {i k : Nat} (hf : plFind st.fs k = some i) (hp : 0 < plN st k) : plEvict n st i = (6, st) := by
  obtain ⟨f1, f2, f3⟩ := find_some hf
  rw [plN_hit hf] at hp
  unfold plEvict
  rw [if_neg (by omega), Int.toNat_natCast, if_pos (by simp only [f2, hp]; decide)]
/-- The same frames, all clean. -/
structure PlCl (i : Nat) (st st' : PlSt) : Prop where
  len : st'.fs.length = st.fs.length
  is : ∀ j, (st'.fs.getD j frm0).is = (st.fs.getD j frm0).is
  pg : ∀ j, (st'.fs.getD j frm0).pg = (st.fs.getD j frm0).pg
  pins : ∀ j, (st'.fs.getD j frm0).pins = (st.fs.getD j frm0).pins
  cl : ∀ j, j < i → (st'.fs.getD j frm0).is = true → (st'.fs.getD j frm0).dirty = false
theorem plCleanF_ok : ∀ (r i : Nat) (st0 st : PlSt), PlInv n st → PlCl i st0 st → PlEq st0 st → i + r = st.fs.length → (plCleanF n r i st).1 = 0 ∧ PlInv n (plCleanF n r i st).2 ∧ PlCl (i + r) st0 (plCleanF n r i st).2 ∧ PlEq st0 (plCleanF n r i st).2 := by
  intro r
  induction r with
  | zero => intro i st0 st h hc he hi; exact ⟨rfl, h, hc, he⟩
  | succ r ih =>
    intro i st0 st h hc he hi
    rw [plCleanF]
    obtain ⟨s1, s2, s3, s4, s5, s6, s7⟩ := h.clean1 i (by omega)
    rw [if_pos s1]
    have q := fun j => fr_set st.fs i (plSave (st.fs.getD i frm0) n st.D).2.1 (by omega) j
    have := ih (i + 1) st0 { st with fs := st.fs.set i (plSave (st.fs.getD i frm0) n st.D).2.1, D := (plSave (st.fs.getD i frm0) n st.D).2.2 } s2 ⟨by simpa using hc.len, fun j => ?_, fun j => ?_, fun j => ?_, fun j hj => ?_⟩ (he.trans s3) (by simp; omega)
    · rw [show i + (r + 1) = i + 1 + r by omega]; exact this
    · simp only [q]; split
      · rename_i e; subst e; rw [s4, hc.is]
      · exact hc.is j
    · simp only [q]; split
      · rename_i e; subst e; rw [s5, hc.pg]
      · exact hc.pg j
    · simp only [q]; split
      · rename_i e; subst e; rw [s6, hc.pins]
      · exact hc.pins j
    · simp only [q]; split
      · exact s7
      · exact hc.cl j (by omega)
theorem plClean_ok (h : PlInv n st) : (plClean n st).1 = 0 ∧ PlInv n (plClean n st).2 ∧ PlCl st.fs.length st (plClean n st).2 ∧ PlEq st (plClean n st).2 := by
  have := plCleanF_ok st.fs.length 0 st st h ⟨rfl, fun _ => rfl, fun _ => rfl, fun _ => rfl, fun j hj => by omega⟩ (PlEq.refl _) (by omega)
  rw [Nat.zero_add] at this
  exact this
theorem PlCl.find {i : Nat} {st' : PlSt} (h : PlCl i st st') (h' : PlInv n st') {k j : Nat} (hf : plFind st.fs k = some j) : plFind st'.fs k = some j := by
  obtain ⟨f1, f2, f3⟩ := find_some hf
  exact h'.hit (by rw [h.is]; exact f2) (by rw [h.pg]; exact f3)
/-- Where all is clean, the disk has every page. -/
theorem PlCl.disk {st' : PlSt} (h : PlCl st.fs.length st st') (h' : PlInv n st') (k : Nat) : pgAt st'.D k = plV st' k := by
  cases hf : plFind st'.fs (k : Int) with
  | none => rw [plV_miss hf]
  | some i =>
    obtain ⟨f1, f2, f3⟩ := find_some hf
    rw [plV_hit hf]
    exact (h'.cln i k f2 (h.cl i (by rw [← h.len]; exact f1) f2) f3).symm
theorem pgAt_flushP {D : DiskSt} {n k : Nat} (h : D.ok n) (hn : (D.M.map (·.1)).Nodup) (hk : k < n / 8) : pgAt ⟨flushB D.M D.b, [], none⟩ k = pgAt D k := by
  unfold pgAt
  exact catV_congr 8 _ _ (fun j hj => secV_flush h hn none (by omega))
theorem plFlush_ok (h : PlInv n st) (hd : (plClean n st).2.D.ok n) (hn : ((plClean n st).2.D.M.map (·.1)).Nodup) : (plFlush n st).1 = 0 ∧ PlInv n (plFlush n st).2 ∧ PlCl st.fs.length st (plFlush n st).2 ∧
    (∃ b, (plFlush n st).2.D = ⟨b, [], none⟩) ∧ (∀ k : Nat, k < n / 8 → plV (plFlush n st).2 k = plV st k ∧ pgAt (plFlush n st).2.D k = plV st k) ∧ ∀ k : Nat, plN (plFlush n st).2 k = plN st k := by
  obtain ⟨c1, c2, c3, c4⟩ := plClean_ok h
  have hp := fun (k : Nat) (hk : k < n / 8) => pgAt_flushP hd hn hk
  have hdk := c3.disk c2
  unfold plFlush
  rw [if_pos c1, sdFlush_ok c2.fuse]
  generalize hst : (plClean n st).2 = st1 at *
  obtain ⟨fs, hand, D⟩ := st1
  simp only at hp hdk hd hn ⊢
  refine ⟨trivial, ⟨rfl, c2.hand, c2.off, c2.pg, c2.len, c2.pins, c2.uniq, fun i k a b c => ?_, fun k hk => ?_⟩, ⟨c3.len, c3.is, c3.pg, c3.pins, c3.cl⟩, ⟨_, rfl⟩, fun k hk => ?_, fun k => (c4 k).2⟩
  · obtain ⟨k0, e1, e2⟩ := c2.pg i a
    simp only at a b c e1
    have : k0 = k := by rw [c] at e1; omega
    subst this
    rw [hp k0 e2]
    exact c2.cln i k0 a b c
  · rw [hp k hk]; exact c2.plen k hk
  · have e1 : plV ⟨fs, hand, ⟨flushB D.M D.b, [], none⟩⟩ k = plV ⟨fs, hand, D⟩ k := by
      cases hf : plFind fs (k : Int) with
      | some i => rw [plV_hit (st := ⟨fs, hand, ⟨flushB D.M D.b, [], none⟩⟩) hf, plV_hit (st := ⟨fs, hand, D⟩) hf]
      | none => rw [plV_miss (st := ⟨fs, hand, ⟨flushB D.M D.b, [], none⟩⟩) hf, plV_miss (st := ⟨fs, hand, D⟩) hf]; exact hp k hk
    refine ⟨e1.trans (c4 k).1, ?_⟩
    rw [hp k hk, hdk k]
    exact (c4 k).1
theorem plDrop_ok (h : PlInv n st) {k : Nat} (hk : k < n / 8) (he : (∃ i, i < st.fs.length ∧ (st.fs.getD i frm0).is = false) ∨ ∃ i, plFind st.fs k = some i) : (plDrop n st k).1 = 0 ∧ PlInv n (plDrop n st k).2 ∧ plFind (plDrop n st k).2.fs k = none ∧ (plDrop n st k).2.D = st.D ∧
    ∃ i, i < (plDrop n st k).2.fs.length ∧ ((plDrop n st k).2.fs.getD i frm0).is = false := by
  unfold plDrop
  rw [if_neg (pgOut_no hk)]
  cases hf : plFind st.fs (k : Int) with
  | none =>
    refine ⟨rfl, h, hf, rfl, ?_⟩
    rcases he with he | ⟨i, he⟩
    · exact he
    · rw [hf] at he; cases he
  | some i =>
    obtain ⟨f1, f2, f3⟩ := find_some hf
    have q := fun j => fr_set st.fs i frm0 f1 j
    refine ⟨rfl, h.upd f1 frm0 st.hand h.hand st.D h.fuse (fun _ => rfl) (fun a => by cases a) (fun a => by cases a) (by decide) (fun a => by cases a) (fun _ _ _ _ _ _ => rfl) (fun k a => by cases a) h.plen, miss_of (fun j a b => ?_), rfl, i, by simpa using f1, ?_⟩
    · simp only [q] at a b
      split at a
      · cases a
      · rename_i e
        rw [if_neg e] at b
        exact e (h.uniq _ _ a f2 (by rw [b, f3]))
    · simp only [q, if_true]; rfl
theorem fr_rep (m j : Nat) : (List.replicate m frm0).getD j frm0 = frm0 := by
  rw [List.getD_eq_getElem?_getD, List.getElem?_replicate]
  split <;> rfl
theorem PlInv.fresh {D : DiskSt} {m : Nat} (hm : 0 < m) (hf : D.fuse = none) (hp : ∀ k : Nat, k < n / 8 → (pgAt D k).length = 4096) : PlInv n ⟨List.replicate m frm0, 0, D⟩ := by
  have no : ∀ i, ((List.replicate m frm0).getD i frm0).is = true → False := fun i a => by rw [fr_rep] at a; cases a
  exact ⟨hf, by simpa using hm, fun i _ => fr_rep m i, fun i a => (no i a).elim, fun i a => (no i a).elim, fun i => (by rw [fr_rep]; decide), fun i j a => (no i a).elim, fun i k a => (no i a).elim, hp⟩
theorem find_fresh (m : Nat) (k : Int) : plFind (List.replicate m frm0) k = none := miss_of (fun j a => by rw [fr_rep] at a; cases a)
/-- A disk that is new. -/
theorem pgAt_new {n k : Nat} (hk : k < n / 8) : pgAt ⟨List.replicate (512 * n) 0#8, [], none⟩ k = List.replicate 4096 0#8 := by
  unfold pgAt
  rw [catV_image, List.drop_replicate, List.take_replicate]
  congr 1
  omega
theorem dsk_plain {w : World} {F : List Nat} {g n : Nat} {D : DiskSt} (h : Dsk w F g n D) : D.ok n ∧ (D.M.map (·.1)).Nodup := by
  obtain ⟨gb, c, gm, O, oc, L, V, hc⟩ := h.parts
  exact ⟨h.ok, hc.nodupM⟩
end
end Go.Proofs.YtoidlmhebnlnbaaDoor
/- PoolTells, plain: what was put, how often a page is pinned; what the frames tell together. -/
set_option linter.unusedVariables false
set_option linter.unusedSimpArgs false
namespace Go.Proofs.YtoidlmhebnlnbaaDoor
open Go.ChangeShapes Go.WideShapes Go.ChangeAt Go.RowKit
set_option maxRecDepth 100000

/-- P pages; i calls so far; what was put; how often each is pinned. -/
structure TlP (P fr i : Nat) (hs : List Byte) (ps : List Int) (st : PlSt) : Prop where
  inv : PlInv (8 * P) st
  fl : st.fs.length = fr
  hl : hs.length = P
  pl : ps.length = P
  v : ∀ k : Nat, k < P → plV st k = List.replicate 4096 (hs.getD k 0#8)
  p : ∀ k : Nat, k < P → plN st k = ps.getD k 0
  b : ∀ k : Nat, k < P → 0 ≤ ps.getD k 0 ∧ ps.getD k 0 ≤ i
theorem getD_setI {α : Type} (xs : List α) (k : Nat) (x d : α) (h : k < xs.length) (j : Nat) : (xs.set k x).getD j d = if j = k then x else xs.getD j d := by
  rw [List.getD_eq_getElem?_getD, List.getD_eq_getElem?_getD, List.getElem?_set]
  by_cases e : k = j
  · subst e; rw [if_pos rfl, if_pos h, if_pos rfl]; rfl
  · rw [if_neg e, if_neg (fun h => e h.symm)]
section
variable {P fr i k : Nat} {hs : List Byte} {ps : List Int} {st st' : PlSt}
theorem TlP.k8 (hk : k < P) : k < 8 * P / 8 := by omega
theorem TlP.same (h : TlP P fr i hs ps st) (hi : PlInv (8 * P) st') (hl : st'.fs.length = st.fs.length) (he : PlEq st st') : TlP P fr (i + 1) hs ps st' :=
  ⟨hi, hl.trans h.fl, h.hl, h.pl, fun k hk => (he k).1.trans (h.v k hk), fun k hk => (he k).2.trans (h.p k hk), fun k hk => ⟨(h.b k hk).1, by have := (h.b k hk).2; omega⟩⟩
theorem tl_get (h : TlP P fr i hs ps st) (hk : k < P) : ((plGet (8 * P) st k).1.2 = 9 ∨ ((plGet (8 * P) st k).1.2 = 0 ∧ plGetB (8 * P) st k = List.replicate 4096 (hs.getD k 0#8))) ∧ TlP P fr (i + 1) hs ps (plGet (8 * P) st k).2 := by
  obtain ⟨g1, g2, g3⟩ := plGet_ok h.inv (TlP.k8 hk)
  refine ⟨?_, h.same g1 (plGet_lenI h.inv (TlP.k8 hk)) g2⟩
  rcases g3 with ⟨g3, -⟩ | ⟨j, g3, -, g5⟩
  · left; rw [g3]
  · right; exact ⟨by rw [g3], g5.trans (h.v k hk)⟩
theorem tl_put (h : TlP P fr i hs ps st) (hk : k < P) (v : Byte) : ((plPut (8 * P) st k (List.replicate 4096 v)).1 = 9 ∧ TlP P fr (i + 1) hs ps (plPut (8 * P) st k (List.replicate 4096 v)).2) ∨
    ((plPut (8 * P) st k (List.replicate 4096 v)).1 = 0 ∧ TlP P fr (i + 1) (hs.set k v) ps (plPut (8 * P) st k (List.replicate 4096 v)).2) := by
  obtain ⟨p1, p2, p3⟩ := plPut_ok (xs := List.replicate 4096 v) h.inv (TlP.k8 hk) (by simp)
  rcases p3 with ⟨p3, -, p4⟩ | ⟨p3, -, p4⟩
  · exact .inl ⟨p3, h.same p1 p2 p4⟩
  · refine .inr ⟨p3, p1, p2.trans h.fl, by rw [List.length_set]; exact h.hl, h.pl, fun j hj => ?_, fun j hj => (p4 j).2.trans (h.p j hj), fun j hj => ⟨(h.b j hj).1, by have := (h.b j hj).2; omega⟩⟩
    rw [(p4 j).1, getD_setI _ _ _ _ (by rw [h.hl]; exact hk)]
    split
    · rfl
    · exact h.v j hj
theorem tl_pin (h : TlP P fr i hs ps st) (hi : i ≤ 1000) (hk : k < P) : ((plPin (8 * P) st k).1 = 9 ∧ TlP P fr (i + 1) hs ps (plPin (8 * P) st k).2) ∨
    ((plPin (8 * P) st k).1 = 0 ∧ TlP P fr (i + 1) hs (ps.set k (ps.getD k 0 + 1)) (plPin (8 * P) st k).2) := by
  have hb := h.b k hk
  have hp := h.p k hk
  obtain ⟨p1, p2, p3⟩ := plPin_ok h.inv (TlP.k8 hk) (by rw [hp]; omega)
  rcases p3 with ⟨p3, -, p4⟩ | ⟨p3, -, p4⟩
  · exact .inl ⟨p3, h.same p1 p2 p4⟩
  · refine .inr ⟨p3, p1, p2.trans h.fl, h.hl, by rw [List.length_set]; exact h.pl, fun j hj => (p4 j).1.trans (h.v j hj), fun j hj => ?_, fun j hj => ?_⟩
    · rw [(p4 j).2, getD_setI _ _ _ _ (by rw [h.pl]; exact hk)]
      split
      · rw [hp]
      · exact h.p j hj
    · rw [getD_setI _ _ _ _ (by rw [h.pl]; exact hk)]
      have := h.b j hj
      split <;> omega
theorem tl_unpin (h : TlP P fr i hs ps st) (hi : i ≤ 1000) (hk : k < P) : (ps.getD k 0 = 0 ∧ plUnpin st k = (6, st) ∧ TlP P fr (i + 1) hs (ps.set k 0) st) ∨
    (0 < ps.getD k 0 ∧ (plUnpin st k).1 = 0 ∧ TlP P fr (i + 1) hs (ps.set k (ps.getD k 0 - 1)) (plUnpin st k).2) := by
  have hb := h.b k hk
  have hp := h.p k hk
  rcases Int.lt_or_le 0 (ps.getD k 0) with h0 | h0
  · right
    obtain ⟨u1, u2, u3, u4⟩ := plUnpin_pos h.inv (k := k) (by rw [hp]; exact h0) (by rw [hp]; omega)
    refine ⟨h0, u1, u2, u3.trans h.fl, h.hl, by rw [List.length_set]; exact h.pl, fun j hj => (u4 j).1.trans (h.v j hj), fun j hj => ?_, fun j hj => ?_⟩
    · rw [(u4 j).2, getD_setI _ _ _ _ (by rw [h.pl]; exact hk)]
      split
      · rw [hp]
      · exact h.p j hj
    · rw [getD_setI _ _ _ _ (by rw [h.pl]; exact hk)]
      have := h.b j hj
      split <;> omega
  · left
    have h0' : ps.getD k 0 = 0 := by omega
    have hset : ps.set k 0 = ps := by
      apply List.ext_getElem (by simp)
      intro j h1 h2
      rw [List.getElem_set]
      split
      · rename_i e; subst e
        rw [← h0', List.getD_eq_getElem?_getD, List.getElem?_eq_getElem h2]; rfl
      · rfl
    refine ⟨h0', plUnpin_zero (by rw [hp, h0']), ?_⟩
    rw [hset]
    exact h.same h.inv rfl (PlEq.refl _)
theorem tl_evict (h : TlP P fr i hs ps st) (x : Int) : TlP P fr (i + 1) hs ps (plEvict (8 * P) st x).2 := by
  obtain ⟨e1, e2, e3⟩ := plEvict_ok h.inv x
  exact h.same e1 e3 e2
theorem tl_clean (h : TlP P fr i hs ps st) : (plClean (8 * P) st).1 = 0 ∧ TlP P fr (i + 1) hs ps (plClean (8 * P) st).2 := by
  obtain ⟨c1, c2, c3, c4⟩ := plClean_ok h.inv
  exact ⟨c1, h.same c2 c3.len c4⟩
theorem tl_flush (h : TlP P fr i hs ps st) (ho : (plClean (8 * P) st).2.D.ok (8 * P)) (hn : ((plClean (8 * P) st).2.D.M.map (·.1)).Nodup) : (plFlush (8 * P) st).1 = 0 ∧
    ∃ b, (plFlush (8 * P) st).2.D = ⟨b, [], none⟩ ∧ ∀ k : Nat, k < P → (b.drop (4096 * k)).take 4096 = List.replicate 4096 (hs.getD k 0#8) := by
  obtain ⟨f1, f2, f3, ⟨b, f4⟩, f5, f6⟩ := plFlush_ok h.inv ho hn
  refine ⟨f1, b, f4, fun k hk => ?_⟩
  have := (f5 k (TlP.k8 hk)).2
  rw [f4] at this
  unfold pgAt at this
  rw [catV_image] at this
  rw [this]; exact h.v k hk
theorem tl_start (hP : 1 ≤ P) (h8 : 8 ≤ fr) : TlP P fr 0 (List.replicate P 0#8) (List.replicate P 0) ⟨List.replicate fr frm0, 0, ⟨List.replicate (512 * (8 * P)) 0#8, [], none⟩⟩ := by
  refine ⟨PlInv.fresh (by omega) rfl (fun k hk => by rw [pgAt_new hk]; simp), by simp, by simp, by simp, fun k hk => ?_, fun k hk => ?_, fun k hk => ?_⟩
  · rw [plV_miss (find_fresh fr k), pgAt_new (TlP.k8 hk), List.getD_eq_getElem?_getD, List.getElem?_replicate, if_pos hk]; rfl
  · rw [plN_miss (find_fresh fr k), List.getD_eq_getElem?_getD, List.getElem?_replicate, if_pos hk]; rfl
  · rw [List.getD_eq_getElem?_getD, List.getElem?_replicate, if_pos hk]; simp
/-- What the first j frames tell of a page. -/
def hdV (st : PlSt) (j k : Nat) : Int := match plFind st.fs k with | some i => if i < j then (st.fs.getD i frm0).pins else 0 | none => 0
def hdL (st : PlSt) (P j : Nat) : List Int := (List.range P).map (hdV st j)
theorem hdL_len (st : PlSt) (P j : Nat) : (hdL st P j).length = P := by simp [hdL]
theorem hdL_get (st : PlSt) (P j k : Nat) (hk : k < P) : (hdL st P j).getD k 0 = hdV st j k := by
  unfold hdL
  rw [List.getD_eq_getElem?_getD, List.getElem?_map, List.getElem?_range hk]; rfl
theorem hdL_zero (st : PlSt) (P : Nat) : hdL st P 0 = List.replicate P 0 := by
  apply List.ext_getElem (by simp [hdL])
  intro j h1 h2
  simp only [hdL, List.getElem_map, List.getElem_range, List.getElem_replicate]
  unfold hdV
  split
  · rw [if_neg (by omega)]
  · rfl
theorem hdL_end (h : TlP P fr i hs ps st) : hdL st P fr = ps := by
  apply List.ext_getElem (by rw [hdL_len, h.pl])
  intro j h1 h2
  have hj : j < P := by rw [hdL_len] at h1; exact h1
  have hp := h.p j hj
  rw [List.getD_eq_getElem?_getD, List.getElem?_eq_getElem h2] at hp
  simp only [hdL, List.getElem_map, List.getElem_range]
  simp only [Option.getD_some] at hp
  rw [← hp]
  unfold hdV plN
  cases hf : plFind st.fs (j : Int) with
  | none => rfl
  | some x => exact if_pos (by rw [← h.fl]; exact (find_some hf).1)
theorem hdL_off (h : PlInv (8 * P) st) {j : Nat} (hj : (st.fs.getD j frm0).is = false) : hdL st P (j + 1) = hdL st P j := by
  unfold hdL
  refine List.map_congr_left (fun k _ => ?_)
  unfold hdV
  cases hf : plFind st.fs (k : Int) with
  | none => rfl
  | some x =>
    obtain ⟨-, f2, -⟩ := find_some hf
    have hx : x ≠ j := fun e => by rw [e, hj] at f2; cases f2
    show (if x < j + 1 then _ else (0 : Int)) = if x < j then _ else 0
    by_cases e : x < j
    · rw [if_pos e, if_pos (by omega)]
    · rw [if_neg e, if_neg (by omega)]
theorem hdL_on (h : PlInv (8 * P) st) {j k : Nat} (hj : (st.fs.getD j frm0).is = true) (hk : (st.fs.getD j frm0).pg = (k : Int)) (hkP : k < P) :
    (hdL st P j).getD k 0 = 0 ∧ hdL st P (j + 1) = (hdL st P j).set k (st.fs.getD j frm0).pins := by
  have hf := h.hit hj hk
  refine ⟨?_, ?_⟩
  · rw [hdL_get st P j k hkP]; unfold hdV; rw [hf]; exact if_neg (by omega)
  · apply List.ext_getElem (by simp [hdL])
    intro x h1 h2
    have hx : x < P := by rw [hdL_len] at h1; exact h1
    rw [List.getElem_set]
    simp only [hdL, List.getElem_map, List.getElem_range]
    split
    · rename_i e; subst e
      unfold hdV; rw [hf]; exact if_pos (by omega)
    · rename_i e
      unfold hdV
      cases hg : plFind st.fs (x : Int) with
      | none => rfl
      | some y =>
        obtain ⟨-, f2, f3⟩ := find_some hg
        have hy : y ≠ j := fun e2 => by rw [e2, hk] at f3; omega
        show (if y < j + 1 then _ else (0 : Int)) = if y < j then _ else 0
        by_cases e3 : y < j
        · rw [if_pos e3, if_pos (by omega)]
        · rw [if_neg e3, if_neg (by omega)]
end
end Go.Proofs.YtoidlmhebnlnbaaDoor
/- PoolTells: what stands in memory between its calls: the pool, a row of bytes, a row of integers. -/
set_option linter.unusedVariables false
set_option linter.unusedSimpArgs false
namespace Go.Proofs.YtoidlmhebnlnbaaDoor
open Go.ChangeShapes Go.WideShapes Go.ChangeAt Go.RowKit
set_option maxRecDepth 100000

theorem mk_ints (n : Nat) (hn : n ≤ 100000000) : ∃ C : Array Value,
    (∀ W : World, (Instr.makeSlice 26 (.int .i64 (n : Int)) (.int .i64 (n : Int))).run Tryd.prog W = .ok (.slice (some ⟨W.heap.size, 0, none⟩) n n) (W.alloc (.cells C 3))) ∧
    C = ((List.replicate n (0 : Int)).map (.int .i64)).toArray := by
  obtain ⟨i, hi, hz, hsz, hb⟩ := info_parts info_int
  refine ⟨madeCells #[.int .i64 0] n, fun W => ?_, ?_⟩
  · have h := run_make (P := Tryd.prog) W 26 3 i _ Tryd.underlying26 hi hz .i64 .i64 (n : Int) (n : Int) (by omega) (Int.le_refl _) (by rw [hb]; omega) (by omega)
    rw [hsz] at h
    simpa [Value.cells] using h
  · rw [List.map_replicate, ← toList_madeCells_one]
section
variable {w : World} {g k : Nat} {xs : List Value} {t : TypeId}
/-- A row, its cells. -/
theorem rw_cell (h : w.heap[g]? = some (.cells xs.toArray t (0, 0))) (hk : k < xs.length) : w.cell? ⟨g, k, none⟩ = some xs[k] := by
  rw [cell_of_row _ _ _ _ _ _ h, List.getElem?_toArray, List.getElem?_eq_getElem hk]
theorem rw_set (h : w.heap[g]? = some (.cells xs.toArray t (0, 0))) (k : Nat) (v : Value) : (w.setCell ⟨g, k, none⟩ v).heap[g]? = some (.cells (xs.set k v).toArray t (0, 0)) := by
  rw [heap_setCell_same _ g k _ _ _ h]
  simp
theorem rw_rd (h : w.heap[g]? = some (.cells xs.toArray t (0, 0))) : RdV w (some ⟨g, 0, none⟩) xs := fun i hi => by
  refine ⟨g, 0, rfl, ?_⟩
  rw [Nat.zero_add]; exact rw_cell h hi
end
/-- A row has just come: the page is put. -/
theorem po_PutRowK {w0 w w' : World} {K : List Nat} {g n gp gf : Nat} {st : PlSt} {A : Option Addr} {v : Byte} (h : PoA w0 K g n gp gf st w) (ho : Own w' w.heap.size (.slice A 4096 4096) (List.replicate 4096 v)) (hb : FB w w') (k : Int) :
    Calls Tryd.prog 16 #[.pointer (some ⟨gp, 0, none⟩), .int .i64 k, .slice A 4096 4096] w' fun e w'' => e = .returned (.int .i64 (plPut n st k (List.replicate 4096 v)).1) ∧ PoA w0 K g n gp gf (plPut n st k (List.replicate 4096 v)).2 w'' ∧ KP K w w'' := by
  obtain ⟨gb, e1, e2, e3⟩ := Own.head0 ho (by omega)
  have hk := h.add hb gb e2 e3
  have hc := po_Put hk k A 4096 (List.replicate 4096 v) (by rw [List.length_replicate]; omega) ho.info.2.2.1 (fun ad ha => by rw [e1] at ha; cases ha; exact .inl (by simp))
  rw [show (List.replicate 4096 v).length = 4096 from List.length_replicate] at hc
  refine hc.mono ?_
  rintro e w2 ⟨rfl, hp, hkp⟩
  exact ⟨rfl, hp.fewer (fun b hb => List.mem_cons_of_mem _ hb), (h.kp hb).trans ⟨hkp.1, fun b hb => hkp.2 b (List.mem_cons_of_mem _ hb)⟩⟩
theorem pl_small {n : Nat} {st : PlSt} (h : PlInv n st) : ∀ f ∈ st.fs, f.b = [] ∨ f.b.length = 4096 := by
  intro f hf
  obtain ⟨i, hi, rfl⟩ := List.getElem_of_mem hf
  have e : st.fs.getD i frm0 = st.fs[i] := by rw [List.getD_eq_getElem?_getD, List.getElem?_eq_getElem hi]; rfl
  cases hx : st.fs[i].is with
  | false => left; rw [← e, h.off i (by rw [e]; exact hx)]; rfl
  | true => right; rw [← e]; exact h.len i (by rw [e]; exact hx)
theorem pl_flen {w0 w : World} {K : List Nat} {g n gp gf : Nat} {st : PlSt} (h : PoA w0 K g n gp gf st w) : 0 < st.fs.length := by
  obtain ⟨⟨F, xs, h1, h2, h3, h4⟩, h5⟩ := h
  have := h1.hl
  rw [← h2, List.length_map]; omega
structure TlM (w0 : World) (g n gp gf gh gq : Nat) (hs : List Byte) (ps : List Int) (st : PlSt) (w : World) : Prop where
  po : PoA w0 [gh, gq] g n gp gf st w
  hrow : w.heap[gh]? = some (.cells (vbs hs).toArray 5 (0, 0))
  prow : w.heap[gq]? = some (.cells (ps.map (.int .i64)).toArray 3 (0, 0))
  ne : gh ≠ gq
  ge : w0.heap.size ≤ gh ∧ w0.heap.size ≤ gq
section
variable {w0 w w' : World} {g n gp gf gh gq P fr i k : Nat} {hs : List Byte} {ps : List Int} {st st' : PlSt}
theorem TlM.byFB (h : TlM w0 g n gp gf gh gq hs ps st w) (t : FB w w') : TlM w0 g n gp gf gh gq hs ps st w' :=
  ⟨(h.po.byFB t).1, (t.block _ (Array.getElem?_eq_some_iff.1 h.hrow).1).trans h.hrow, (t.block _ (Array.getElem?_eq_some_iff.1 h.prow).1).trans h.prow, h.ne, h.ge⟩
theorem TlM.step (h : TlM w0 g n gp gf gh gq hs ps st w) (hp : PoA w0 [gh, gq] g n gp gf st' w') (hk : KP [gh, gq] w w') : TlM w0 g n gp gf gh gq hs ps st' w' :=
  ⟨hp, (hk.2 gh (by simp)).trans h.hrow, (hk.2 gq (by simp)).trans h.prow, h.ne, h.ge⟩
theorem TlM.hcell (h : TlM w0 g n gp gf gh gq hs ps st w) (hk : k < hs.length) : w.cell? ⟨gh, k, none⟩ = some (.int .u8 (nb (hs.getD k 0#8))) ∧ w.frozen? ⟨gh, k, none⟩ = false := by
  refine ⟨?_, frozen_row _ h.hrow k⟩
  rw [rw_cell h.hrow (by rw [vbs_length]; exact hk), vbs_get hs k hk, List.getD_eq_getElem?_getD, List.getElem?_eq_getElem hk]; rfl
theorem TlM.pcell (h : TlM w0 g n gp gf gh gq hs ps st w) (hk : k < ps.length) : w.cell? ⟨gq, k, none⟩ = some (.int .i64 (ps.getD k 0)) ∧ w.frozen? ⟨gq, k, none⟩ = false := by
  refine ⟨?_, frozen_row _ h.prow k⟩
  rw [rw_cell h.prow (by rw [List.length_map]; exact hk), List.getElem_map, List.getD_eq_getElem?_getD, List.getElem?_eq_getElem hk]; rfl
theorem TlM.seth (h : TlM w0 g n gp gf gh gq hs ps st w) (hb : ∀ f ∈ st.fs, f.b = [] ∨ f.b.length = 4096) (hl : hs.length < 4096) (k : Nat) (v : Byte) : TlM w0 g n gp gf gh gq (hs.set k v) ps st (w.setCell ⟨gh, k, none⟩ (.int .u8 (nb v))) := by
  refine ⟨h.po.set gh k _ (by simp) h.ge.1 h.hrow (by simp [vbs_length]; exact hl) hb, ?_, ?_, h.ne, h.ge⟩
  · rw [rw_set h.hrow]; simp [vbs, vb, List.map_set]
  · rw [heap_setCell_other _ _ _ _ (fun e => h.ne (by simpa using e.symm))]; exact h.prow
theorem TlM.setp (h : TlM w0 g n gp gf gh gq hs ps st w) (hb : ∀ f ∈ st.fs, f.b = [] ∨ f.b.length = 4096) (hl : ps.length < 4096) (k : Nat) (v : Int) : TlM w0 g n gp gf gh gq hs (ps.set k v) st (w.setCell ⟨gq, k, none⟩ (.int .i64 v)) := by
  refine ⟨h.po.set gq k _ (by simp) h.ge.2 h.prow (by simp; exact hl) hb, ?_, ?_, h.ne, h.ge⟩
  · rw [heap_setCell_other _ _ _ _ (fun e => h.ne (by simpa using e))]; exact h.hrow
  · rw [rw_set h.prow]; simp [List.map_set]
theorem TlM.begin (h : PoA w0 [] g n gp gf st w) {C1 C2 : Array Value} (h1 : C1 = (vbs hs).toArray) (h2 : C2 = (ps.map (.int .i64)).toArray) :
    TlM w0 g n gp gf w.heap.size (w.heap.size + 1) hs ps st ((w.alloc (.cells C1 5)).alloc (.cells C2 3)).drew ∧ TlM w0 g n gp gf (w.heap.size + 1) w.heap.size hs ps st ((w.alloc (.cells C2 3)).alloc (.cells C1 5)).drew := by
  have key : ∀ o1 o2 : Obj, PoA w0 [w.heap.size + 1, w.heap.size] g n gp gf st ((w.alloc o1).alloc o2).drew ∧ ((w.alloc o1).alloc o2).drew.heap[w.heap.size]? = some o1 ∧ ((w.alloc o1).alloc o2).drew.heap[w.heap.size + 1]? = some o2 := fun o1 o2 => by
    have a1 := h.add ((FB.refl w).alloc o1) w.heap.size (Nat.le_refl _) (by simp)
    have a2 := a1.add ((FB.refl (w.alloc o1)).alloc o2) (w.heap.size + 1) (by simp) (by simp)
    refine ⟨(a2.byFB (FB.refl _).drew).1, ?_, ?_⟩
    · show ((w.alloc o1).alloc o2).heap[w.heap.size]? = some o1
      rw [((FB.refl (w.alloc o1)).alloc o2).block _ (by simp)]
      exact heap_alloc_new _ _
    · have := heap_alloc_new (w.alloc o1) o2
      rw [show (w.alloc o1).heap.size = w.heap.size + 1 from by simp] at this
      exact this
  have hle := h.fb.le
  subst h1 h2
  obtain ⟨p1, p2, p3⟩ := key (.cells (vbs hs).toArray 5) (.cells (ps.map (.int .i64)).toArray 3)
  obtain ⟨q1, q2, q3⟩ := key (.cells (ps.map (.int .i64)).toArray 3) (.cells (vbs hs).toArray 5)
  exact ⟨⟨p1.fewer (by simp), p2, p3, by omega, by omega, by omega⟩, ⟨q1.fewer (by simp), q3, q2, by omega, by omega, by omega⟩⟩
end
end Go.Proofs.YtoidlmhebnlnbaaDoor
/- chain: the walk through Write. -/
set_option linter.unusedVariables false
set_option linter.unusedSimpArgs false
namespace Go.Proofs.YtoidlmhebnlnbaaDoor
open Go.ChangeShapes Go.WideShapes Go.ChangeAt Go.RowKit
attribute [local go_sem] nb_nonneg nb_lt8 nb_lt64
set_option maxRecDepth 100000

/-- All blocks that have come are none of the pool's. -/
theorem PoA.addNew {w0 w w' : World} {K : List Nat} {g n gp gf : Nat} {st : PlSt} (h : PoA w0 K g n gp gf st w) (t : FB w w') : PoA w0 (List.range' w.heap.size (w'.heap.size - w.heap.size) ++ K) g n gp gf st w' := by
  obtain ⟨⟨F, xs, h1, h2, h3, h4⟩, h5⟩ := h
  refine ⟨⟨F, xs, (h1.fb t).blocks (fun x hx => ?_) (fun x hx => ?_), h2, h3, fun x hx => ?_⟩, h5.trans t⟩
  · rcases List.mem_append.1 hx with hx | hx
    · have hr := List.mem_range'_1.1 hx; omega
    · exact Nat.lt_of_lt_of_le (h4 x hx).1 t.le
  · rcases List.mem_append.1 hx with hx | hx
    · exact .inr (fun y hy ad ha => by have := ((h1.rd y hy).2.2.2 ad ha).1; have hr := List.mem_range'_1.1 hx; omega)
    · exact .inl hx
  rcases List.mem_append.1 hx with hx | hx
  · have hr := List.mem_range'_1.1 hx
    refine ⟨by omega, fun hm => ?_⟩
    have hlt := h1.lt
    rcases List.mem_cons.1 hm with e | hm
    · omega
    · rcases List.mem_cons.1 hm with e | hm
      · omega
      · have := h1.dsk.lt _ hm; omega
  · exact ⟨Nat.lt_of_lt_of_le (h4 x hx).1 t.le, (h4 x hx).2⟩
theorem frames_nil (gl m cap : Nat) (W : World) : (binOp .eql 63 (.slice (some ⟨gl, 0, none⟩) m cap) (.slice none 0 0)).run Tryd.prog W = .ok (.bool false) W := by
  simp only [binOp]
  simp [run_equal_slice_nil W 63 83 (some ⟨gl, 0, none⟩) m cap Tryd.underlying63]
/-- The pages are put, one by one. -/
def chWr (n : Nat) : List Int → List (List Byte) → PlSt → Int × PlSt
  | p :: ps, x :: xs, st => if (plPut n st p x).1 = 0 then chWr n ps xs (plPut n st p x).2 else plPut n st p x
  | _, _, st => (0, st)
def chWrite (n : Nat) (kind : Int) (ps : List Int) (b : List Byte) (st : PlSt) : Int × PlSt :=
  if (chPages kind ps b).2 = 0 then chWr n ps (chPages kind ps b).1 st else ((chPages kind ps b).2, st)
set_option maxHeartbeats 4000000 in
theorem ch_Write {w0 w : World} {K : List Nat} {g n gp gf : Nat} {st : PlSt} (h : PoA w0 K g n gp gf st w) (kind : Int) (ps : List Int) (b : List Byte) (B A : Option Addr) (cb ca : Nat) (hpl : ps.length ≤ 1000000) (hbl : b.length ≤ 1000000000) (hca : b.length ≤ ca) (hcm : ca ≤ maxLen)
    (hrp : RdV w B (ps.map (.int .i64))) (hra : Rd w A b) (hB : ∀ ad, B = some ad → ad.block ∈ K) :
    Calls Tryd.prog 12 #[.pointer (some ⟨gp, 0, none⟩), .int .i64 kind, .slice B ps.length cb, .slice A b.length ca] w fun e w' => e = .returned (.int .i64 (chWrite n kind ps b st).1) ∧ PoA w0 K g n gp gf (chWrite n kind ps b st).2 w' ∧ KP K w w' := by
  have HC := Lib.hid (ch_Pages kind ps b B A cb ca w hpl hbl hca hcm hrp hra)
  have HP := Lib.hid h
  have HRP := Lib.hid hrp
  have HB := Lib.hid hB
  have hcode : (chPages kind ps b).2 = 0 ∨ (chPages kind ps b).2 = 2 := by unfold chPages; split <;> simp
  have hplen : (chPages kind ps b).2 = 0 → (chPages kind ps b).1.length = ps.length := by
    unfold chPages; split
    · rename_i hk; intro _; simp [hk.2.1]
    · intro e; cases e
  have hrl : ∀ x ∈ (chPages kind ps b).1, x.length = 4096 := by
    unfold chPages; split
    · intro x hx; obtain ⟨i, -, rfl⟩ := List.mem_map.1 hx; exact chPage_len _ _ _ _
    · intro x hx; cases hx
  unfold chWrite
  generalize chPages kind ps b = r at *
  obtain ⟨rows, code⟩ := r
  simp only at hcode hplen hrl ⊢
  have HRL := Lib.hid hrl
  clear hrl
  clear hrp hra hB h hca hcm hbl
  rcases hcode with rfl | rfl
  · have hpn := hplen rfl
    rw [if_pos rfl]
    obtain ⟨R, hR⟩ : ∃ R, R = chWr n ps rows st := ⟨_, rfl⟩
    rw [← hR]
    have HR := Lib.hid hR
    have HPN := Lib.hid hpn
    clear hplen hpn hR
    go_enter Tryd.func12, Tryd.ntmps12
    go_wp2_with fail
    refine HC.out.mono ?_
    rintro e w1 ⟨A1, c1, vs, rfl, hv, hrw, -, -, hA1, hb⟩
    obtain ⟨K1, hK1⟩ : ∃ K1, K1 = List.range' w.heap.size (w1.heap.size - w.heap.size) ++ K := ⟨_, rfl⟩
    have HP1 := Lib.hid (show PoA w0 K1 g n gp gf st w1 from by rw [hK1]; exact HP.out.addNew hb)
    have HKK := Lib.hid (show ∀ x, x ∈ K → x ∈ K1 from fun x hx => by rw [hK1]; exact List.mem_append_right _ hx)
    have HKN := Lib.hid (show ∀ x, w.heap.size ≤ x → x < w1.heap.size → x ∈ K1 from fun x h1 h2 => by rw [hK1]; exact List.mem_append_left _ (List.mem_range'_1.2 ⟨h1, by omega⟩))
    clear hK1
    have HV1 := Lib.hid hv
    have HW1 := Lib.hid hrw
    have HA1 := Lib.hid hA1
    have HF1 := Lib.hid hb
    clear hb HC hv hrw hA1
    go_wp2_with fail
    refine (po_Frames HP1.out).mono ?_
    rintro e w2 ⟨v2, rfl, ho, hb⟩
    obtain ⟨gl, cap, rfl, -, -, -⟩ := owns_form ho (pl_flen HP1.out)
    have HP2 := Lib.hid (HP1.out.byFB hb).1
    have HF2 := Lib.hid hb
    have hnil := frames_nil gl st.fs.length cap
    clear ho hb
    go_wp2_with fail
    clear hnil
    go_loopw [31] (fun s31 wr => ∃ (j : Nat) (st' : PlSt), j ≤ rows.length ∧ s31 = .int .i64 j ∧ Hid (PoA w0 K1 g n gp gf st' wr) ∧ Hid (KP K1 w1 wr) ∧ Hid (R = chWr n (ps.drop j) (rows.drop j) st')) (fun s31 _ => rows.length - (intOf s31).toNat)
    case atStart => exact ⟨0, st, by omega, rfl, HP2, Lib.hid (HP1.out.kp HF2.out), Lib.hid (by rw [List.drop_zero, List.drop_zero]; exact HR.out)⟩
    case round =>
      clear HP2
      obtain ⟨j, st', hj, rfl, HPj, HKj, HRj⟩ := hrel
      by_cases hlt : j < rows.length
      · have hjx : (j : Int) < (rows.length : Int) := by omega
        have hjp : (j : Int) < (ps.length : Int) := by have := HPN.out; omega
        have hjq : j < ps.length := by have := HPN.out; omega
        obtain ⟨Aj, cj, g1, g2, g3, g4, g5⟩ := HW1.out.each j hlt
        obtain ⟨b1, o1, rfl, hb1, hc1⟩ := RdV.form HV1.out (by have := HW1.out.len; omega)
        have hb1K : b1 ∈ K1 := HKN.out b1 (HA1.out _ rfl) hb1
        have hvj := (World.cell?_of_block (a := ⟨b1, o1 + j, none⟩) (HKj.out.2 b1 hb1K)).trans (hc1 j (by have := HW1.out.len; omega))
        rw [List.getElem?_eq_getElem (by have := HW1.out.len; omega)] at g1
        rw [Option.some.inj g1] at hvj
        obtain ⟨b2, o2, rfl, hb2, hc2⟩ := RdV.form (HF1.out.rdV HRP.out) (by simp; omega)
        have hpj := (World.cell?_of_block (a := ⟨b2, o2 + j, none⟩) (HKj.out.2 b2 (HKK.out _ (HB.out _ rfl)))).trans (hc2 j (by simpa using hjq))
        rw [List.getElem_map] at hpj
        have hxl := HRL.out rows[j] (List.getElem_mem hlt)
        have HC := Lib.hid (po_Put HPj.out ps[j] Aj cj rows[j] (by rw [hxl]; omega) (HKj.out.rdV g2 (fun ad ha => HKN.out _ (g5 ad ha) (by
          obtain ⟨b', o', e', h', -⟩ := Rd.form g2 (by rw [hxl]; omega)
          rw [e'] at ha; cases ha; exact h'))) (fun ad ha => .inl (HKN.out _ (g5 ad ha) (by
          obtain ⟨b', o', e', h', -⟩ := Rd.form g2 (by rw [hxl]; omega)
          rw [e'] at ha; cases ha; exact h'))))
        have hr := HRj.out
        rw [List.drop_eq_getElem_cons hjq, List.drop_eq_getElem_cons hlt, chWr] at hr
        have HRR := Lib.hid hr
        have HLT := Lib.hid hlt
        have hwk : IntKind.i64.wrap ((j : Int) + 1) = (j : Int) + 1 := by rw [IntKind.wrap_i64]; omega
        generalize ps[j] = p at *
        generalize rows[j] = x at *
        generalize hq : plPut n st' p x = q at *
        obtain ⟨ec, st2⟩ := q
        simp only at HC HRR
        clear hc1 hc2 g1 g2 g3 g4 g5 hr hq hxl hlt hj hb1 hb1K hb2
        by_cases h0 : ec = 0
        · subst h0
          have HR2 := Lib.hid (show R = chWr n (ps.drop (j + 1)) (rows.drop (j + 1)) st2 from by have := HRR.out; rw [if_pos rfl] at this; exact this)
          clear HRR
          go_wp2_with fail
          refine HC.out.mono ?_
          rintro e w3 ⟨rfl, hp, hk⟩
          have HP3 := Lib.hid hp
          have HK3 := Lib.hid (HKj.out.trans hk)
          clear hp hk HC
          go_wp2_with fail
          go_roundw
          case rel => exact ⟨j + 1, st2, by have := HLT.out; omega, by go_num, HP3, HK3, HR2⟩
          case measure => (show rows.length - ((j : Int) + 1).toNat < rows.length - ((j : Int)).toNat; have := HLT.out; omega)
        · have hne : (ec != 0) = true := by simpa using h0
          obtain rfl : R = (ec, st2) := by have := HRR.out; rw [if_neg h0] at this; exact this
          clear h0 HRR
          go_wp2_with fail
          refine HC.out.mono ?_
          rintro e w3 ⟨rfl, hp, hk⟩
          have HP3 := Lib.hid hp
          have HK3 := Lib.hid (HKj.out.trans hk)
          clear hp hk HC
          go_wp2_with fail
          go_ret
          exact ⟨rfl, HP3.out.fewer HKK.out, (HP.out.kp HF1.out).trans ⟨HK3.out.1, fun x hx => HK3.out.2 x (HKK.out x hx)⟩⟩
      · have hjx : ¬ (j : Int) < (rows.length : Int) := by omega
        obtain rfl : j = rows.length := by omega
        have hr := HRj.out
        rw [List.drop_length] at hr
        have hr2 : R = (0, st') := by rw [hr]; unfold chWr; split <;> first | rfl | (rename_i h1 h2; cases h2) | simp_all
        subst hr2
        clear hlt hj hr
        go_wp2_with fail
        go_ret
        exact ⟨rfl, HPj.out.fewer HKK.out, (HP.out.kp HF1.out).trans ⟨HKj.out.1, fun x hx => HKj.out.2 x (HKK.out x hx)⟩⟩
  · rw [if_neg (by decide)]
    go_enter Tryd.func12, Tryd.ntmps12
    go_wp2_with fail
    refine HC.out.mono ?_
    rintro e w1 ⟨A1, c1, vs, rfl, -, -, -, -, -, hb⟩
    have HP1 := Lib.hid (HP.out.byFB hb)
    clear hb HC
    go_wp2_with fail
    refine (po_Frames HP1.out.1).mono ?_
    rintro e w2 ⟨v2, rfl, ho, hb⟩
    obtain ⟨gl, cap, rfl, -, -, -⟩ := owns_form ho (pl_flen HP1.out.1)
    have HP2 := Lib.hid (HP1.out.1.byFB hb)
    have HK2 := Lib.hid (HP1.out.2.trans HP2.out.2)
    clear ho hb
    have hnil := frames_nil gl st.fs.length cap
    go_wp2_with fail
    go_ret
    exact ⟨rfl, HP2.out.1, HK2.out⟩
end Go.Proofs.YtoidlmhebnlnbaaDoor
/- chain, plain: what reading a chain from the pool does. -/
set_option linter.unusedVariables false
set_option linter.unusedSimpArgs false
namespace Go.Proofs.YtoidlmhebnlnbaaDoor
open Go.ChangeShapes Go.WideShapes Go.ChangeAt Go.RowKit

/-- Which page follows; how many bytes there are; the bytes; what is behind them. -/
def chNx (body : List Byte) : Nat := (xword (body.take 4)).toNat
def chLn (body : List Byte) : Nat := (xword ((body.drop 4).take 2)).toNat
def chBs (body : List Byte) : List Byte := (body.drop 6).take (chLn body)
def chRest (body : List Byte) : List Byte := body.drop (6 + chLn body)
/-- The i-th page of a chain may be so; seen: the pages up to this one. -/
def chGood (kind : Int) (i : Nat) (most : Int) (seen : List Int) (bs : List Byte) : Prop :=
  (pgR bs).2 = 0 ∧ (pgR bs).1.1 = kind ∧ (pgR bs).1.2.1 = BitVec.ofNat 32 i ∧ (i : Int) < most ∧
  chLn (pgR bs).1.2.2 ≤ 4074 ∧ (chNx (pgR bs).1.2.2 ≠ 0 → chLn (pgR bs).1.2.2 = 4074) ∧ ¬ (chNx (pgR bs).1.2.2 = 0 ∧ chLn (pgR bs).1.2.2 = 0 ∧ 0 < i) ∧
  chNx (pgR bs).1.2.2 ≠ 1 ∧ ((chNx (pgR bs).1.2.2 : Nat) : Int) ∉ seen ∧ ∀ x ∈ chRest (pgR bs).1.2.2, x = 0#8
instance (kind : Int) (i : Nat) (most : Int) (seen : List Int) (bs : List Byte) : Decidable (chGood kind i most seen bs) := by unfold chGood; exact inferInstance
/-- Reading on, from the i-th page: the pages with their bytes; the code; the pool. -/
def chRd (n : Nat) (kind most : Int) : Nat → Nat → List Int → Int → PlSt → (List (Int × List Byte) × Int) × PlSt
  | 0, _, _, _, st => (([], 4), st)
  | f + 1, i, seen, head, st =>
    if (plGet n st head).1.2 = 0 then
      if chGood kind i most (seen ++ [head]) (plGetB n st head) then
        if chNx (pgR (plGetB n st head)).1.2.2 = 0 then (([(head, chBs (pgR (plGetB n st head)).1.2.2)], 0), (plGet n st head).2)
        else (((head, chBs (pgR (plGetB n st head)).1.2.2) :: (chRd n kind most f (i + 1) (seen ++ [head]) (chNx (pgR (plGetB n st head)).1.2.2 : Nat) (plGet n st head).2).1.1,
          (chRd n kind most f (i + 1) (seen ++ [head]) (chNx (pgR (plGetB n st head)).1.2.2 : Nat) (plGet n st head).2).1.2),
          (chRd n kind most f (i + 1) (seen ++ [head]) (chNx (pgR (plGetB n st head)).1.2.2 : Nat) (plGet n st head).2).2)
      else (([], 4), (plGet n st head).2)
    else (([], (plGet n st head).1.2), (plGet n st head).2)
end Go.Proofs.YtoidlmhebnlnbaaDoor
