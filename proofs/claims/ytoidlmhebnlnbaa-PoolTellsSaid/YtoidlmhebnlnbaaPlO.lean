/- pool, plain: each method, where no fault is set. -/
import Derived.Test.YtoidlmhebnlnbaaPlN
set_option linter.unusedVariables false
set_option linter.unusedSimpArgs false
namespace Go.Proofs.Ytoidlmhebnlnbaa
open Go.ChangeShapes Go.WideShapes Go.ChangeAt Go.RowKit
set_option maxRecDepth 100000

section
variable {n : Nat} {st : PlSt}
theorem PlInv.evict (h : PlInv n st) {i : Nat} (hi : i < st.fs.length) (hp : ¬ 0 < (st.fs.getD i frm0).pins) (hd : Nat) (hh : hd < st.fs.length) :
    (plSave (st.fs.getD i frm0) n st.D).1 = 0 ∧ PlInv n ⟨st.fs.set i frm0, hd, (plSave (st.fs.getD i frm0) n st.D).2.2⟩ ∧ PlEq st ⟨st.fs.set i frm0, hd, (plSave (st.fs.getD i frm0) n st.D).2.2⟩ ∧
    ∀ k : Nat, pgAt (plSave (st.fs.getD i frm0) n st.D).2.2 k = if (st.fs.getD i frm0).is = true ∧ (st.fs.getD i frm0).pg = k then (st.fs.getD i frm0).b else pgAt st.D k := by
  obtain ⟨D', e, hf, hp'⟩ := h.saved i
  rw [e]
  have hI : PlInv n ⟨st.fs.set i frm0, hd, D'⟩ := h.upd hi frm0 hd hh D' hf (fun _ => rfl) (fun a => by cases a) (fun a => by cases a) (by decide) (fun a => by cases a)
    (fun j k hj a b c => by rw [hp' k, if_neg (fun hh => hj (h.uniq _ _ a hh.1 (by rw [c, hh.2])))]) (fun k a => by cases a) (fun k hk => by rw [hp' k]; split; exact h.len i (by rename_i e; exact e.1); exact h.plen k hk)
  refine ⟨rfl, hI, fun k => h.look hi hI k (fun a => by cases a) (fun a b => .inr ⟨rfl, by rw [hp' k, if_pos ⟨a, b⟩], by have := h.pins i; omega⟩) (fun a => by rw [hp' k, if_neg (fun hh => a hh.1 hh.2)]), hp'⟩
theorem PlInv.clean1 (h : PlInv n st) (i : Nat) (hi : i < st.fs.length) :
    (plSave (st.fs.getD i frm0) n st.D).1 = 0 ∧ PlInv n ⟨st.fs.set i (plSave (st.fs.getD i frm0) n st.D).2.1, st.hand, (plSave (st.fs.getD i frm0) n st.D).2.2⟩ ∧ PlEq st ⟨st.fs.set i (plSave (st.fs.getD i frm0) n st.D).2.1, st.hand, (plSave (st.fs.getD i frm0) n st.D).2.2⟩ ∧
    (plSave (st.fs.getD i frm0) n st.D).2.1.is = (st.fs.getD i frm0).is ∧ (plSave (st.fs.getD i frm0) n st.D).2.1.pg = (st.fs.getD i frm0).pg ∧ (plSave (st.fs.getD i frm0) n st.D).2.1.pins = (st.fs.getD i frm0).pins ∧ ((plSave (st.fs.getD i frm0) n st.D).2.1.is = true → (plSave (st.fs.getD i frm0) n st.D).2.1.dirty = false) := by
  obtain ⟨D', e, hf, hp'⟩ := h.saved i
  rw [e]
  have o := h.off i
  have hx : ∀ x : Frm, x = (if (st.fs.getD i frm0).is then { (st.fs.getD i frm0) with dirty := false } else (st.fs.getD i frm0)) → x.is = (st.fs.getD i frm0).is ∧ x.pg = (st.fs.getD i frm0).pg ∧ x.pins = (st.fs.getD i frm0).pins ∧ x.b = (st.fs.getD i frm0).b ∧ (x.is = true → x.dirty = false) ∧ (x.is = false → x = frm0) := by
    intro x hx
    subst hx
    split
    · rename_i h1; exact ⟨rfl, rfl, rfl, rfl, fun _ => rfl, fun a => by rw [show ({ (st.fs.getD i frm0) with dirty := false } : Frm).is = (st.fs.getD i frm0).is from rfl, h1] at a; cases a⟩
    · rename_i h1; exact ⟨rfl, rfl, rfl, rfl, fun a => absurd a h1, fun a => o a⟩
  obtain ⟨x1, x2, x3, x4, x5, x6⟩ := hx _ rfl
  generalize (if (st.fs.getD i frm0).is then { (st.fs.getD i frm0) with dirty := false } else (st.fs.getD i frm0)) = x at *
  have hI : PlInv n ⟨st.fs.set i x, st.hand, D'⟩ := h.upd hi x st.hand h.hand D' hf x6 (fun a => by rw [x2]; exact h.pg i (by rw [← x1]; exact a)) (fun a => by rw [x4]; exact h.len i (by rw [← x1]; exact a)) (by rw [x3]; exact h.pins i)
    (fun a j hj b c => hj (h.uniq _ _ b (by rw [← x1]; exact a) (by rw [c, x2])))
    (fun j k hj a b c => by rw [hp' k, if_neg (fun hh => hj (h.uniq _ _ a hh.1 (by rw [c, hh.2])))]) (fun k a b c => by rw [hp' k, if_pos ⟨by rw [← x1]; exact a, by rw [← x2]; exact c⟩, x4]) (fun k hk => by rw [hp' k]; split; exact h.len i (by rename_i e; exact e.1); exact h.plen k hk)
  exact ⟨rfl, hI, fun k => h.look hi hI k (fun a b => ⟨by rw [← x1]; exact a, by rw [← x2]; exact b⟩) (fun a b => .inl ⟨by rw [x1]; exact a, by rw [x2]; exact b, x4, x3⟩) (fun a => by rw [hp' k, if_neg (fun hh => a hh.1 hh.2)]), x1, x2, x3, x5⟩
theorem plNext_lt (h : PlInv n st) : plNext st < st.fs.length := by unfold plNext; exact Nat.mod_lt _ (by have := h.hand; omega)
/-- No page comes in. -/
def PlSub (st st' : PlSt) : Prop := ∀ j, (st'.fs.getD j frm0).is = true → (st.fs.getD j frm0).is = true ∧ (st'.fs.getD j frm0).pg = (st.fs.getD j frm0).pg
theorem PlSub.refl (st : PlSt) : PlSub st st := fun _ h => ⟨h, rfl⟩
theorem PlSub.trans {a b c : PlSt} (h : PlSub a b) (k : PlSub b c) : PlSub a c := fun j hj => ⟨(h j (k j hj).1).1, (k j hj).2.trans (h j (k j hj).1).2⟩
theorem PlSub.set {i : Nat} (hi : i < st.fs.length) (x : Frm) (hd : Nat) (D' : DiskSt) (h1 : x.is = true → (st.fs.getD i frm0).is = true ∧ x.pg = (st.fs.getD i frm0).pg) : PlSub st ⟨st.fs.set i x, hd, D'⟩ := by
  intro j
  simp only [fr_set st.fs i x hi j]
  split
  · rename_i e; subst e; exact h1
  · exact fun a => ⟨a, rfl⟩
theorem plRound_ok : ∀ (m : Nat) (st : PlSt), PlInv n st → PlInv n (plRound n m st).2 ∧ PlEq st (plRound n m st).2 ∧ PlSub st (plRound n m st).2 ∧
    (∀ i, (plRound n m st).1.1 = some i → i < st.fs.length ∧ ((plRound n m st).2.fs.getD i frm0).is = false ∧ (plRound n m st).1.2 = 0) ∧ ((plRound n m st).1.1 = none → (plRound n m st).1.2 = 9) := by
  intro m
  induction m with
  | zero => intro st h; exact ⟨h, PlEq.refl _, PlSub.refl _, (fun i hi => by cases hi), fun _ => rfl⟩
  | succ m ih =>
    intro st h
    rw [plRound]
    have hn := plNext_lt h
    split
    · have h1 : PlInv n { st with hand := plNext st } := ⟨h.fuse, hn, h.off, h.pg, h.len, h.pins, h.uniq, h.cln, h.plen⟩
      obtain ⟨a, b, c, d, e⟩ := ih _ h1
      exact ⟨a, fun k => b k, fun j hj => c j hj, d, e⟩
    · rename_i hp
      split
      · rename_i hu
        obtain ⟨h1, h2⟩ := h.mark h.hand { (st.fs.getD st.hand frm0) with used := false } (plNext st) hn rfl rfl rfl rfl (fun a => by have := h.off st.hand a; rw [this]; rfl) (fun a => a)
        obtain ⟨a, b, c, d, e⟩ := ih _ h1
        refine ⟨a, h2.trans b, PlSub.trans (PlSub.set h.hand { (st.fs.getD st.hand frm0) with used := false } _ _ (fun a => ⟨a, rfl⟩)) c, fun i hi => ?_, e⟩
        have := d i hi
        rw [List.length_set] at this
        exact this
      · obtain ⟨s1, s2, s3, -⟩ := h.evict h.hand hp (plNext st) hn
        rw [if_pos s1]
        refine ⟨s2, s3, PlSub.set h.hand _ _ _ (fun a => by cases a), fun i hi => ?_, fun a => by cases a⟩
        cases hi
        refine ⟨h.hand, ?_, rfl⟩
        rw [fr_set _ _ _ h.hand, if_pos rfl]; rfl
theorem plRoom_ok (h : PlInv n st) : PlInv n (plRoom n st).2 ∧ PlEq st (plRoom n st).2 ∧ PlSub st (plRoom n st).2 ∧
    (∀ i, (plRoom n st).1.1 = some i → i < st.fs.length ∧ ((plRoom n st).2.fs.getD i frm0).is = false ∧ (plRoom n st).1.2 = 0) ∧ ((plRoom n st).1.1 = none → (plRoom n st).1.2 = 9) := by
  unfold plRoom
  split
  · rename_i i hi
    have h1 := plIx_some hi
    refine ⟨h, PlEq.refl _, PlSub.refl _, fun j hj => ?_, (fun a => by cases a)⟩
    cases hj
    exact ⟨by omega, by simpa using h1.2.2, rfl⟩
  · exact plRound_ok _ _ h
theorem plRoom_emp {i : Nat} (hi : i < st.fs.length) (he : (st.fs.getD i frm0).is = false) : (plRoom n st).1.1 ≠ none ∧ (plRoom n st).2 = st := by
  unfold plRoom
  split
  · exact ⟨by simp, rfl⟩
  · rename_i hn
    have := plIx_none hn (st.fs.getD i frm0) (by rw [List.getD_eq_getElem?_getD, List.getElem?_eq_getElem hi]; exact List.getElem_mem hi)
    rw [he] at this; cases this
theorem plRoom_lenI (st : PlSt) (n : Nat) : (plRoom n st).2.fs.length = st.fs.length := plRoom_len n st
/-- A page is put in, where no frame has it. -/
theorem PlInv.come (h : PlInv n st) {i k : Nat} (hi : i < st.fs.length) (he : (st.fs.getD i frm0).is = false) (hk : k < n / 8) (hf : plFind st.fs k = none) (x : Frm) (h1 : x.is = true) (h2 : x.pg = k) (h3 : x.b.length = 4096) (h4 : x.pins = 0)
    (h5 : x.dirty = false → x.b = pgAt st.D k) : PlInv n ⟨st.fs.set i x, st.hand, st.D⟩ ∧ plFind (st.fs.set i x) k = some i ∧
    ∀ k' : Nat, plV ⟨st.fs.set i x, st.hand, st.D⟩ k' = (if k' = k then x.b else plV st k') ∧ plN ⟨st.fs.set i x, st.hand, st.D⟩ k' = plN st k' := by
  have hI : PlInv n ⟨st.fs.set i x, st.hand, st.D⟩ := h.upd hi x st.hand h.hand st.D h.fuse (fun a => by rw [h1] at a; cases a) (fun _ => ⟨k, h2, hk⟩) (fun _ => h3) (by omega)
    (fun _ j hj a b => find_none hf j a (by rw [b, h2])) (fun _ _ _ _ _ _ => rfl) (fun k' _ b c => by
      have : k' = k := by rw [h2] at c; omega
      subst this; exact h5 b) h.plen
  have q := fun j => fr_set st.fs i x hi j
  have hF : plFind (st.fs.set i x) (k : Int) = some i := hI.hit (i := i) (by simp only [q, if_true]; exact h1) (by simp only [q, if_true]; exact h2)
  refine ⟨hI, hF, fun k' => ?_⟩
  by_cases e : k' = k
  · subst e
    rw [plV_hit (st := ⟨st.fs.set i x, st.hand, st.D⟩) hF, plN_hit (st := ⟨st.fs.set i x, st.hand, st.D⟩) hF, plN_miss hf, if_pos rfl]
    simp only [q, if_true]
    exact ⟨trivial, h4⟩
  · rw [if_neg e]
    exact h.look hi hI k' (fun a b => absurd (by rw [h2] at b; omega) e) (fun a => by rw [he] at a; cases a) (fun _ => rfl)
/-- A frame that has the page is changed. -/
theorem PlInv.turn (h : PlInv n st) {i k : Nat} (hf : plFind st.fs k = some i) (x : Frm) (h1 : x.is = true) (h2 : x.pg = k) (h3 : x.b.length = 4096) (h4 : 0 ≤ x.pins)
    (h5 : x.dirty = false → x.b = pgAt st.D k) : PlInv n ⟨st.fs.set i x, st.hand, st.D⟩ ∧ plFind (st.fs.set i x) k = some i ∧
    ∀ k' : Nat, plV ⟨st.fs.set i x, st.hand, st.D⟩ k' = (if k' = k then x.b else plV st k') ∧ plN ⟨st.fs.set i x, st.hand, st.D⟩ k' = (if k' = k then x.pins else plN st k') := by
  obtain ⟨f1, f2, f3⟩ := find_some hf
  have hI : PlInv n ⟨st.fs.set i x, st.hand, st.D⟩ := h.upd f1 x st.hand h.hand st.D h.fuse (fun a => by rw [h1] at a; cases a) (fun _ => by
      obtain ⟨k0, e1, e2⟩ := h.pg i f2
      exact ⟨k0, by rw [h2, ← f3, e1], e2⟩) (fun _ => h3) h4
    (fun _ j hj a b => hj (h.uniq _ _ a f2 (by rw [b, h2, f3]))) (fun _ _ _ _ _ _ => rfl) (fun k' _ b c => by
      have : k' = k := by rw [h2] at c; omega
      subst this; exact h5 b) h.plen
  have q := fun j => fr_set st.fs i x f1 j
  have hF : plFind (st.fs.set i x) (k : Int) = some i := hI.hit (i := i) (by simp only [q, if_true]; exact h1) (by simp only [q, if_true]; exact h2)
  refine ⟨hI, hF, fun k' => ?_⟩
  by_cases e : k' = k
  · subst e
    rw [plV_hit (st := ⟨st.fs.set i x, st.hand, st.D⟩) hF, plN_hit (st := ⟨st.fs.set i x, st.hand, st.D⟩) hF, if_pos rfl, if_pos rfl]
    simp only [q, if_true]
    exact ⟨trivial, trivial⟩
  · rw [if_neg e, if_neg e]
    exact h.look f1 hI k' (fun a b => absurd (by rw [h2] at b; omega) e) (fun a b => absurd (by rw [f3] at b; omega) e) (fun _ => rfl)
theorem pgOut_no {n k : Nat} (hk : k < n / 8) : ¬ pgOut n (k : Int) := by unfold pgOut; omega
theorem plGet_ok (h : PlInv n st) {k : Nat} (hk : k < n / 8) : PlInv n (plGet n st k).2 ∧ PlEq st (plGet n st k).2 ∧ (((plGet n st k).1 = (none, 9) ∧ plFind st.fs k = none) ∨ ∃ i, (plGet n st k).1 = (some i, 0) ∧ plFind (plGet n st k).2.fs k = some i ∧ plGetB n st k = plV st k) := by
  have ho := pgOut_no hk
  cases hf : plFind st.fs (k : Int) with
  | some i =>
    obtain ⟨f1, f2, f3⟩ := find_some hf
    unfold plGetB
    rw [plGet_hit ho hf]
    obtain ⟨h1, h2, h3⟩ := h.turn hf { (st.fs.getD i frm0) with used := true } f2 f3 (h.len i f2) (h.pins i) (fun a => h.cln i k f2 a f3)
    refine ⟨h1, fun k' => ?_, .inr ⟨i, rfl, h2, ?_⟩⟩
    · obtain ⟨a, b⟩ := h3 k'
      rw [a, b]
      by_cases e : k' = k
      · subst e; rw [if_pos rfl, if_pos rfl, plV_hit hf, plN_hit hf]; exact ⟨rfl, rfl⟩
      · rw [if_neg e, if_neg e]; exact ⟨rfl, rfl⟩
    · show ((st.fs.set i _).getD i frm0).b = _
      rw [fr_set _ _ _ f1, if_pos rfl, plV_hit hf]
  | none =>
    obtain ⟨r1, r2, r3, r4, r5⟩ := plRoom_ok h
    have rl := plRoom_len n st
    unfold plGetB
    rcases hr : plRoom n st with ⟨⟨so, se⟩, st1⟩
    rw [hr] at r1 r2 r3 r4 r5 rl
    simp only at r1 r2 r3 r4 r5 rl
    cases so with
    | none =>
      rw [plGet_full ho hf hr]
      refine ⟨r1, r2, .inl ⟨?_, rfl⟩⟩
      have := r5 rfl
      simp only [this]
    | some i =>
      obtain ⟨i1, i2, i3⟩ := r4 i rfl
      have hf1 : plFind st1.fs (k : Int) = none := miss_of (fun j a => by
        obtain ⟨b, c⟩ := r3 j a
        rw [c]; exact find_none hf j b)
      have hL := load_pg (n := n) r1.fuse hk
      rw [plGet_load ho hf hr, hL, if_pos rfl]
      obtain ⟨h1, h2, h3⟩ := r1.come (by rw [rl]; exact i1) i2 hk hf1 ⟨true, k, 0, false, true, pgAt st1.D k⟩ rfl rfl (r1.plen k hk) rfl (fun _ => rfl)
      have hv : plV st1 k = pgAt st1.D k := plV_miss hf1
      refine ⟨h1, fun k' => ?_, .inr ⟨i, rfl, h2, ?_⟩⟩
      · obtain ⟨a, b⟩ := h3 k'
        simp only
        rw [a, b]
        by_cases e : k' = k
        · subst e; rw [if_pos rfl]; exact ⟨hv.symm.trans (r2 k').1, (r2 k').2⟩
        · rw [if_neg e]; exact r2 k'
      · show ((st1.fs.set i _).getD i frm0).b = _
        rw [fr_set _ _ _ (by rw [rl]; exact i1), if_pos rfl]
        exact hv.symm.trans (r2 k).1
end
end Go.Proofs.Ytoidlmhebnlnbaa
