/- pool, plain: Put, Pin, Unpin, Evict, Clean, Flush, Drop, Reset and New, where no fault is set. -/
import Derived.Test.YtoidlmhebnlnbaaPlO
set_option linter.unusedVariables false
set_option linter.unusedSimpArgs false
namespace Go.Proofs.Ytoidlmhebnlnbaa
open Go.ChangeShapes Go.WideShapes Go.ChangeAt Go.RowKit
set_option maxRecDepth 100000

section
variable {n : Nat} {st : PlSt}
theorem plPut_ok (h : PlInv n st) {k : Nat} (hk : k < n / 8) {xs : List Byte} (hl : xs.length = 4096) : PlInv n (plPut n st k xs).2 ∧ (plPut n st k xs).2.fs.length = st.fs.length ∧
    (((plPut n st k xs).1 = 9 ∧ plFind st.fs k = none ∧ PlEq st (plPut n st k xs).2) ∨ ((plPut n st k xs).1 = 0 ∧ (∃ i, plFind (plPut n st k xs).2.fs k = some i) ∧ ∀ k' : Nat, plV (plPut n st k xs).2 k' = (if k' = k then xs else plV st k') ∧ plN (plPut n st k xs).2 k' = plN st k')) := by
  have ho : ¬ (pgOut n (k : Int) ∨ xs.length ≠ 4096) := fun a => by
    rcases a with a | a
    · exact pgOut_no hk a
    · exact a hl
  cases hf : plFind st.fs (k : Int) with
  | some i =>
    obtain ⟨f1, f2, f3⟩ := find_some hf
    rw [plPut_hit ho hf]
    obtain ⟨h1, h2, h3⟩ := h.turn hf { (st.fs.getD i frm0) with b := xs, dirty := true, used := true } f2 f3 hl (h.pins i) (fun a => by cases a)
    refine ⟨h1, by simp, .inr ⟨rfl, ⟨i, h2⟩, fun k' => ?_⟩⟩
    obtain ⟨a, b⟩ := h3 k'
    refine ⟨a, b.trans ?_⟩
    by_cases e : k' = k
    · subst e; rw [if_pos rfl, plN_hit hf]
    · rw [if_neg e]
  | none =>
    obtain ⟨r1, r2, r3, r4, r5⟩ := plRoom_ok h
    have rl := plRoom_len n st
    rcases hr : plRoom n st with ⟨⟨so, se⟩, st1⟩
    rw [hr] at r1 r2 r3 r4 r5 rl
    simp only at r1 r2 r3 r4 r5 rl
    cases so with
    | none =>
      rw [plPut_full ho hf hr]
      exact ⟨r1, rl, .inl ⟨r5 rfl, rfl, r2⟩⟩
    | some i =>
      obtain ⟨i1, i2, i3⟩ := r4 i rfl
      have hf1 : plFind st1.fs (k : Int) = none := miss_of (fun j a => by
        obtain ⟨b, c⟩ := r3 j a
        rw [c]; exact find_none hf j b)
      rw [plPut_new ho hf hr]
      obtain ⟨h1, h2, h3⟩ := r1.come (by rw [rl]; exact i1) i2 hk hf1 ⟨true, k, 0, true, true, xs⟩ rfl rfl hl rfl (fun a => by cases a)
      refine ⟨h1, by simpa using rl, .inr ⟨rfl, ⟨i, h2⟩, fun k' => ?_⟩⟩
      obtain ⟨a, b⟩ := h3 k'
      simp only
      rw [a, b]
      by_cases e : k' = k
      · subst e; rw [if_pos rfl, if_pos rfl]; exact ⟨rfl, (r2 k').2⟩
      · rw [if_neg e, if_neg e]; exact r2 k'
theorem plPut_emp (h : PlInv n st) {k : Nat} (hk : k < n / 8) {xs : List Byte} (hl : xs.length = 4096) {i : Nat} (hi : i < st.fs.length) (he : (st.fs.getD i frm0).is = false) : (plPut n st k xs).1 = 0 := by
  have ho : ¬ (pgOut n (k : Int) ∨ xs.length ≠ 4096) := fun a => by
    rcases a with a | a
    · exact pgOut_no hk a
    · exact a hl
  cases hf : plFind st.fs (k : Int) with
  | some i => rw [plPut_hit ho hf]
  | none =>
    obtain ⟨r1, r2⟩ := plRoom_emp (n := n) hi he
    rcases hr : plRoom n st with ⟨⟨so, se⟩, st1⟩
    rw [hr] at r1
    cases so with
    | none => exact absurd rfl r1
    | some j => rw [plPut_new ho hf hr]
theorem plPut_hitD {k : Nat} (hk : k < n / 8) {xs : List Byte} (hl : xs.length = 4096) {i : Nat} (hf : plFind st.fs (k : Int) = some i) : (plPut n st k xs).1 = 0 ∧ (plPut n st k xs).2.D = st.D := by
  have ho : ¬ (pgOut n (k : Int) ∨ xs.length ≠ 4096) := fun a => by
    rcases a with a | a
    · exact pgOut_no hk a
    · exact a hl
  rw [plPut_hit ho hf]
  exact ⟨rfl, rfl⟩
theorem plGet_lenI (h : PlInv n st) {k : Nat} (hk : k < n / 8) : (plGet n st k).2.fs.length = st.fs.length := by
  have ho := pgOut_no hk
  cases hf : plFind st.fs (k : Int) with
  | some i => rw [plGet_hit ho hf]; simp
  | none =>
    have rl := plRoom_len n st
    rcases hr : plRoom n st with ⟨⟨so, se⟩, st1⟩
    rw [hr] at rl
    cases so with
    | none => rw [plGet_full ho hf hr]; exact rl
    | some i =>
      rw [plGet_load ho hf hr]
      split
      · simpa using rl
      · exact rl
theorem plGet_emp (h : PlInv n st) {k : Nat} (hk : k < n / 8) {i : Nat} (hi : i < st.fs.length) (he : (st.fs.getD i frm0).is = false) : (plGet n st k).1.2 = 0 ∧ plGetB n st k = plV st k := by
  obtain ⟨-, -, h3⟩ := plGet_ok h hk
  rcases h3 with ⟨h3, h4⟩ | ⟨j, h3, h4, h5⟩
  · exfalso
    have ho := pgOut_no hk
    obtain ⟨r1, r2⟩ := plRoom_emp (n := n) hi he
    rcases hr : plRoom n st with ⟨⟨so, se⟩, st1⟩
    rw [hr] at r1 r2
    simp only at r2
    subst r2
    cases so with
    | none => exact absurd rfl r1
    | some j =>
      rw [plGet_load ho h4 hr, load_pg h.fuse hk, if_pos rfl] at h3
      cases h3
  · exact ⟨by rw [h3], h5⟩
theorem wrap1 {x : Int} (h0 : 0 ≤ x) (h : x < 4611686018427387904) : IntKind.i64.wrap (x + 1) = x + 1 := by
  rw [IntKind.wrap_i64]; omega
theorem wrapm {x : Int} (h0 : 0 < x) (h : x < 4611686018427387904) : IntKind.i64.wrap (x - 1) = x - 1 := by
  rw [IntKind.wrap_i64]; omega
theorem plPin_ok (h : PlInv n st) {k : Nat} (hk : k < n / 8) (hb : plN st k < 4611686018427387904) : PlInv n (plPin n st k).2 ∧ (plPin n st k).2.fs.length = st.fs.length ∧
    (((plPin n st k).1 = 9 ∧ plFind st.fs k = none ∧ PlEq st (plPin n st k).2) ∨ ((plPin n st k).1 = 0 ∧ (∃ i, plFind (plPin n st k).2.fs k = some i) ∧ ∀ k' : Nat, plV (plPin n st k).2 k' = plV st k' ∧ plN (plPin n st k).2 k' = (if k' = k then plN st k + 1 else plN st k'))) := by
  obtain ⟨g1, g2, g3⟩ := plGet_ok h hk
  have gl := plGet_lenI h hk
  unfold plPin
  rcases hg : plGet n st k with ⟨⟨so, se⟩, st1⟩
  rw [hg] at g1 g2 g3 gl
  simp only at g1 g2 g3 gl
  rcases g3 with ⟨g3, g4⟩ | ⟨i, g3, g4, g5⟩
  · cases g3
    exact ⟨g1, gl, .inl ⟨rfl, g4, g2⟩⟩
  · cases g3
    obtain ⟨f1, f2, f3⟩ := find_some g4
    have hN : (st1.fs.getD i frm0).pins = plN st k := (plN_hit g4).symm.trans (g2 k).2
    have h0 := g1.pins i
    have hw := wrap1 h0 (by rw [hN]; exact hb)
    obtain ⟨h1, h2, h3⟩ := g1.turn g4 { (st1.fs.getD i frm0) with pins := IntKind.i64.wrap ((st1.fs.getD i frm0).pins + 1) } f2 f3 (g1.len i f2) (by show 0 ≤ IntKind.i64.wrap ((st1.fs.getD i frm0).pins + 1); omega) (fun a => g1.cln i k f2 a f3)
    refine ⟨h1, by simpa using gl, .inr ⟨rfl, ⟨i, h2⟩, fun k' => ?_⟩⟩
    obtain ⟨a, b⟩ := h3 k'
    simp only
    rw [a, b]
    by_cases e : k' = k
    · subst e; rw [if_pos rfl, if_pos rfl, if_pos rfl, hw, hN]; exact ⟨(plV_hit g4).symm.trans (g2 k').1, rfl⟩
    · rw [if_neg e, if_neg e, if_neg e]; exact g2 k'
theorem plPin_hitD {k : Nat} (hk : k < n / 8) {i : Nat} (hf : plFind st.fs (k : Int) = some i) : (plPin n st k).1 = 0 ∧ (plPin n st k).2.D = st.D := by
  unfold plPin
  rw [plGet_hit (pgOut_no hk) hf]
  exact ⟨rfl, rfl⟩
theorem plUnpin_zero {k : Nat} (h : plN st k = 0) : plUnpin st k = (6, st) := by
  unfold plUnpin
  cases hf : plFind st.fs (k : Int) with
  | none => rfl
  | some i =>
    rw [plN_hit hf] at h
    simp only
    rw [if_pos h]
theorem plUnpin_pos (h : PlInv n st) {k : Nat} (h0 : 0 < plN st k) (hb : plN st k < 4611686018427387904) : (plUnpin st k).1 = 0 ∧ PlInv n (plUnpin st k).2 ∧ (plUnpin st k).2.fs.length = st.fs.length ∧
    ∀ k' : Nat, plV (plUnpin st k).2 k' = plV st k' ∧ plN (plUnpin st k).2 k' = (if k' = k then plN st k - 1 else plN st k') := by
  unfold plUnpin
  cases hf : plFind st.fs (k : Int) with
  | none => rw [plN_miss hf] at h0; omega
  | some i =>
    obtain ⟨f1, f2, f3⟩ := find_some hf
    rw [plN_hit hf] at h0 hb ⊢
    simp only
    rw [if_neg (by omega)]
    have hw := wrapm h0 hb
    obtain ⟨h1, h2, h3⟩ := h.turn hf { (st.fs.getD i frm0) with pins := IntKind.i64.wrap ((st.fs.getD i frm0).pins - 1) } f2 f3 (h.len i f2) (by show 0 ≤ IntKind.i64.wrap ((st.fs.getD i frm0).pins - 1); omega) (fun a => h.cln i k f2 a f3)
    refine ⟨rfl, h1, by simp, fun k' => ?_⟩
    obtain ⟨a, b⟩ := h3 k'
    simp only
    rw [a, b]
    by_cases e : k' = k
    · subst e; rw [if_pos rfl, if_pos rfl, if_pos rfl, hw]; exact ⟨(plV_hit hf).symm, rfl⟩
    · rw [if_neg e, if_neg e, if_neg e]; exact ⟨rfl, rfl⟩
theorem plEvict_ok (h : PlInv n st) (i : Int) : PlInv n (plEvict n st i).2 ∧ PlEq st (plEvict n st i).2 ∧ (plEvict n st i).2.fs.length = st.fs.length := by
  unfold plEvict
  split
  · exact ⟨h, PlEq.refl _, rfl⟩
  · rename_i hr
    split
    · exact ⟨h, PlEq.refl _, rfl⟩
    · rename_i hp
      obtain ⟨e1, e2, e3, -⟩ := h.evict (i := i.toNat) (by omega) (by simp only [Bool.or_eq_true, decide_eq_true_eq] at hp; exact fun a => hp (.inr a)) st.hand h.hand
      rw [if_pos e1]
      exact ⟨e2, e3, by simp⟩
/-- A frame with the page, not pinned, is evicted: the disk has it. -/
theorem plEvict_go (h : PlInv n st) {i k : Nat} (hf : plFind st.fs k = some i) (hp : plN st k = 0) : (plEvict n st i).1 = 0 ∧ plFind (plEvict n st i).2.fs k = none ∧ ((plEvict n st i).2.fs.getD i frm0).is = false ∧ pgAt (plEvict n st i).2.D k = plV st k := by
  obtain ⟨f1, f2, f3⟩ := find_some hf
  rw [plN_hit hf] at hp
  have hq : ¬ 0 < (st.fs.getD i frm0).pins := by omega
  obtain ⟨e1, e2, e3, e4⟩ := h.evict f1 hq st.hand h.hand
  have he : plEvict n st i = (0, { st with fs := st.fs.set i frm0, D := (plSave (st.fs.getD i frm0) n st.D).2.2 }) := by
    unfold plEvict
    rw [if_neg (by omega), Int.toNat_natCast, if_neg (by simp only [f2, hp]; decide), if_pos e1]
  rw [he]
  refine ⟨rfl, miss_of (fun j a b => ?_), ?_, ?_⟩
  · simp only [fr_set st.fs i frm0 f1 j] at a b
    split at a
    · cases a
    · rename_i e
      rw [if_neg e] at b
      exact e (h.uniq _ _ a f2 (by rw [b, f3]))
  · show ((st.fs.set i frm0).getD i frm0).is = false
    rw [fr_set st.fs i frm0 f1, if_pos rfl]; rfl
  · show pgAt (plSave (st.fs.getD i frm0) n st.D).2.2 k = _
    rw [e4, if_pos ⟨f2, f3⟩, plV_hit hf]
theorem plEvict_no {i k : Nat} (hf : plFind st.fs k = some i) (hp : 0 < plN st k) : plEvict n st i = (6, st) := by
  obtain ⟨f1, f2, f3⟩ := find_some hf
  rw [plN_hit hf] at hp
  unfold plEvict
  rw [if_neg (by omega), Int.toNat_natCast, if_pos (by simp only [f2, hp]; decide)]
/-- The same frames, all clean. -/
structure PlCl (i : Nat) (st st' : PlSt) : Prop where
  len : st'.fs.length = st.fs.length
  is : ∀ j, (st'.fs.getD j frm0).is = (st.fs.getD j frm0).is
  pg : ∀ j, (st'.fs.getD j frm0).pg = (st.fs.getD j frm0).pg
  pins : ∀ j, (st'.fs.getD j frm0).pins = (st.fs.getD j frm0).pins
  cl : ∀ j, j < i → (st'.fs.getD j frm0).is = true → (st'.fs.getD j frm0).dirty = false
theorem plCleanF_ok : ∀ (r i : Nat) (st0 st : PlSt), PlInv n st → PlCl i st0 st → PlEq st0 st → i + r = st.fs.length → (plCleanF n r i st).1 = 0 ∧ PlInv n (plCleanF n r i st).2 ∧ PlCl (i + r) st0 (plCleanF n r i st).2 ∧ PlEq st0 (plCleanF n r i st).2 := by
  intro r
  induction r with
  | zero => intro i st0 st h hc he hi; exact ⟨rfl, h, hc, he⟩
  | succ r ih =>
    intro i st0 st h hc he hi
    rw [plCleanF]
    obtain ⟨s1, s2, s3, s4, s5, s6, s7⟩ := h.clean1 i (by omega)
    rw [if_pos s1]
    have q := fun j => fr_set st.fs i (plSave (st.fs.getD i frm0) n st.D).2.1 (by omega) j
    have := ih (i + 1) st0 { st with fs := st.fs.set i (plSave (st.fs.getD i frm0) n st.D).2.1, D := (plSave (st.fs.getD i frm0) n st.D).2.2 } s2 ⟨by simpa using hc.len, fun j => ?_, fun j => ?_, fun j => ?_, fun j hj => ?_⟩ (he.trans s3) (by simp; omega)
    · rw [show i + (r + 1) = i + 1 + r by omega]; exact this
    · simp only [q]; split
      · rename_i e; subst e; rw [s4, hc.is]
      · exact hc.is j
    · simp only [q]; split
      · rename_i e; subst e; rw [s5, hc.pg]
      · exact hc.pg j
    · simp only [q]; split
      · rename_i e; subst e; rw [s6, hc.pins]
      · exact hc.pins j
    · simp only [q]; split
      · exact s7
      · exact hc.cl j (by omega)
theorem plClean_ok (h : PlInv n st) : (plClean n st).1 = 0 ∧ PlInv n (plClean n st).2 ∧ PlCl st.fs.length st (plClean n st).2 ∧ PlEq st (plClean n st).2 := by
  have := plCleanF_ok st.fs.length 0 st st h ⟨rfl, fun _ => rfl, fun _ => rfl, fun _ => rfl, fun j hj => by omega⟩ (PlEq.refl _) (by omega)
  rw [Nat.zero_add] at this
  exact this
theorem PlCl.find {i : Nat} {st' : PlSt} (h : PlCl i st st') (h' : PlInv n st') {k j : Nat} (hf : plFind st.fs k = some j) : plFind st'.fs k = some j := by
  obtain ⟨f1, f2, f3⟩ := find_some hf
  exact h'.hit (by rw [h.is]; exact f2) (by rw [h.pg]; exact f3)
/-- Where all is clean, the disk has every page. -/
theorem PlCl.disk {st' : PlSt} (h : PlCl st.fs.length st st') (h' : PlInv n st') (k : Nat) : pgAt st'.D k = plV st' k := by
  cases hf : plFind st'.fs (k : Int) with
  | none => rw [plV_miss hf]
  | some i =>
    obtain ⟨f1, f2, f3⟩ := find_some hf
    rw [plV_hit hf]
    exact (h'.cln i k f2 (h.cl i (by rw [← h.len]; exact f1) f2) f3).symm
theorem pgAt_flushP {D : DiskSt} {n k : Nat} (h : D.ok n) (hn : (D.M.map (·.1)).Nodup) (hk : k < n / 8) : pgAt ⟨flushB D.M D.b, [], none⟩ k = pgAt D k := by
  unfold pgAt
  exact catV_congr 8 _ _ (fun j hj => secV_flush h hn none (by omega))
theorem plFlush_ok (h : PlInv n st) (hd : (plClean n st).2.D.ok n) (hn : ((plClean n st).2.D.M.map (·.1)).Nodup) : (plFlush n st).1 = 0 ∧ PlInv n (plFlush n st).2 ∧ PlCl st.fs.length st (plFlush n st).2 ∧
    (∃ b, (plFlush n st).2.D = ⟨b, [], none⟩) ∧ (∀ k : Nat, k < n / 8 → plV (plFlush n st).2 k = plV st k ∧ pgAt (plFlush n st).2.D k = plV st k) ∧ ∀ k : Nat, plN (plFlush n st).2 k = plN st k := by
  obtain ⟨c1, c2, c3, c4⟩ := plClean_ok h
  have hp := fun (k : Nat) (hk : k < n / 8) => pgAt_flushP hd hn hk
  have hdk := c3.disk c2
  unfold plFlush
  rw [if_pos c1, sdFlush_ok c2.fuse]
  generalize hst : (plClean n st).2 = st1 at *
  obtain ⟨fs, hand, D⟩ := st1
  simp only at hp hdk hd hn ⊢
  refine ⟨trivial, ⟨rfl, c2.hand, c2.off, c2.pg, c2.len, c2.pins, c2.uniq, fun i k a b c => ?_, fun k hk => ?_⟩, ⟨c3.len, c3.is, c3.pg, c3.pins, c3.cl⟩, ⟨_, rfl⟩, fun k hk => ?_, fun k => (c4 k).2⟩
  · obtain ⟨k0, e1, e2⟩ := c2.pg i a
    simp only at a b c e1
    have : k0 = k := by rw [c] at e1; omega
    subst this
    rw [hp k0 e2]
    exact c2.cln i k0 a b c
  · rw [hp k hk]; exact c2.plen k hk
  · have e1 : plV ⟨fs, hand, ⟨flushB D.M D.b, [], none⟩⟩ k = plV ⟨fs, hand, D⟩ k := by
      cases hf : plFind fs (k : Int) with
      | some i => rw [plV_hit (st := ⟨fs, hand, ⟨flushB D.M D.b, [], none⟩⟩) hf, plV_hit (st := ⟨fs, hand, D⟩) hf]
      | none => rw [plV_miss (st := ⟨fs, hand, ⟨flushB D.M D.b, [], none⟩⟩) hf, plV_miss (st := ⟨fs, hand, D⟩) hf]; exact hp k hk
    refine ⟨e1.trans (c4 k).1, ?_⟩
    rw [hp k hk, hdk k]
    exact (c4 k).1
theorem plDrop_ok (h : PlInv n st) {k : Nat} (hk : k < n / 8) (he : (∃ i, i < st.fs.length ∧ (st.fs.getD i frm0).is = false) ∨ ∃ i, plFind st.fs k = some i) : (plDrop n st k).1 = 0 ∧ PlInv n (plDrop n st k).2 ∧ plFind (plDrop n st k).2.fs k = none ∧ (plDrop n st k).2.D = st.D ∧
    ∃ i, i < (plDrop n st k).2.fs.length ∧ ((plDrop n st k).2.fs.getD i frm0).is = false := by
  unfold plDrop
  rw [if_neg (pgOut_no hk)]
  cases hf : plFind st.fs (k : Int) with
  | none =>
    refine ⟨rfl, h, hf, rfl, ?_⟩
    rcases he with he | ⟨i, he⟩
    · exact he
    · rw [hf] at he; cases he
  | some i =>
    obtain ⟨f1, f2, f3⟩ := find_some hf
    have q := fun j => fr_set st.fs i frm0 f1 j
    refine ⟨rfl, h.upd f1 frm0 st.hand h.hand st.D h.fuse (fun _ => rfl) (fun a => by cases a) (fun a => by cases a) (by decide) (fun a => by cases a) (fun _ _ _ _ _ _ => rfl) (fun k a => by cases a) h.plen, miss_of (fun j a b => ?_), rfl, i, by simpa using f1, ?_⟩
    · simp only [q] at a b
      split at a
      · cases a
      · rename_i e
        rw [if_neg e] at b
        exact e (h.uniq _ _ a f2 (by rw [b, f3]))
    · simp only [q, if_true]; rfl
theorem fr_rep (m j : Nat) : (List.replicate m frm0).getD j frm0 = frm0 := by
  rw [List.getD_eq_getElem?_getD, List.getElem?_replicate]
  split <;> rfl
theorem PlInv.fresh {D : DiskSt} {m : Nat} (hm : 0 < m) (hf : D.fuse = none) (hp : ∀ k : Nat, k < n / 8 → (pgAt D k).length = 4096) : PlInv n ⟨List.replicate m frm0, 0, D⟩ := by
  have no : ∀ i, ((List.replicate m frm0).getD i frm0).is = true → False := fun i a => by rw [fr_rep] at a; cases a
  exact ⟨hf, by simpa using hm, fun i _ => fr_rep m i, fun i a => (no i a).elim, fun i a => (no i a).elim, fun i => (by rw [fr_rep]; decide), fun i j a => (no i a).elim, fun i k a => (no i a).elim, hp⟩
theorem find_fresh (m : Nat) (k : Int) : plFind (List.replicate m frm0) k = none := miss_of (fun j a => by rw [fr_rep] at a; cases a)
/-- A disk that is new. -/
theorem pgAt_new {n k : Nat} (hk : k < n / 8) : pgAt ⟨List.replicate (512 * n) 0#8, [], none⟩ k = List.replicate 4096 0#8 := by
  unfold pgAt
  rw [catV_image, List.drop_replicate, List.take_replicate]
  congr 1
  omega
theorem dsk_plain {w : World} {F : List Nat} {g n : Nat} {D : DiskSt} (h : Dsk w F g n D) : D.ok n ∧ (D.M.map (·.1)).Nodup := by
  obtain ⟨gb, c, gm, O, oc, L, V, hc⟩ := h.parts
  exact ⟨h.ok, hc.nodupM⟩
/-- Flush's disk is a disk: what a run of Clean leaves. -/
theorem po_plain {w0 w : World} {K : List Nat} {g gp gf : Nat} (h : PoA w0 K g n gp gf st w) : (plClean n st).2.D.ok n ∧ ((plClean n st).2.D.M.map (·.1)).Nodup := by
  have hc := po_Clean h
  obtain ⟨e, w', fr, ⟨-, h2, -⟩, -⟩ := hc []
  obtain ⟨F, hd, -⟩ := h2.dsk
  exact dsk_plain hd
end
end Go.Proofs.Ytoidlmhebnlnbaa
