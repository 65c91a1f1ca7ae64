/- page, plain: two pages' bytes are the same where the pages are. -/
import Derived.Test.YtihljjfnjclefaaDoorPgP
set_option linter.unusedVariables false
set_option linter.unusedSimpArgs false
namespace Go.Proofs.YtihljjfnjclefaaDoor

theorem pgq_drop (r : List Byte) : ∃ k, r = List.replicate k 0#8 ++ r.dropWhile (· == 0#8) := by
  induction r with
  | nil => exact ⟨0, rfl⟩
  | cons b r ih =>
    obtain ⟨k, h1⟩ := ih
    by_cases hb : b = 0#8
    · subst hb
      refine ⟨k + 1, ?_⟩
      rw [List.dropWhile_cons, if_pos (by simp), List.replicate_succ, List.cons_append, ← h1]
    · refine ⟨0, ?_⟩
      rw [List.dropWhile_cons, if_neg (by simpa using hb)]; rfl
theorem pgq_split (x : List Byte) : ∃ k, x = trimz x ++ List.replicate k 0#8 := by
  obtain ⟨k, h1⟩ := pgq_drop x.reverse
  refine ⟨k, ?_⟩
  have h := congrArg List.reverse h1
  rw [List.reverse_reverse, List.reverse_append, List.reverse_replicate] at h
  exact h
theorem pgPad_trim {x y : List Byte} (hx : x.length ≤ 4080) (hy : y.length ≤ 4080) (h : trimz x = trimz y) : pgPad x = pgPad y := by
  obtain ⟨k, e⟩ := pgq_split (pgPad x)
  obtain ⟨l, e'⟩ := pgq_split (pgPad y)
  rw [trimz_pad] at e e'
  have h1 := pgPad_len hx
  have h2 := pgPad_len hy
  rw [e, List.length_append, List.length_replicate] at h1
  rw [e', List.length_append, List.length_replicate] at h2
  rw [e, e', h, show k = l from by rw [h] at h1; omega]
theorem pgBytes_eq {K K' : Int} {n n' : BitVec 32} {x y : List Byte} (h : pgOk K x = true) (h' : pgOk K' y = true) :
    decide (pgBytes (BitVec.ofInt 8 K) n x = pgBytes (BitVec.ofInt 8 K') n' y) = pgSame K n x K' n' y := by
  rw [Bool.eq_iff_iff, decide_eq_true_eq]
  have o := pgOk_iff.1 h
  have o' := pgOk_iff.1 h'
  unfold pgSame
  simp only [Bool.and_eq_true, decide_eq_true_eq]
  constructor
  · intro e
    have e2 := congrArg pgR e
    rw [pgR_bytes h, pgR_bytes h'] at e2
    simp only [Prod.mk.injEq, and_true] at e2
    obtain ⟨e3, e4, e5⟩ := e2
    exact ⟨⟨e3, e4⟩, by rw [← trimz_pad x, e5, trimz_pad]⟩
  · rintro ⟨⟨rfl, rfl⟩, e⟩
    rw [← pgBytes_pad _ _ o.2.2, ← pgBytes_pad _ _ o'.2.2, pgPad_trim o.2.2 o'.2.2 e]
end Go.Proofs.YtihljjfnjclefaaDoor
