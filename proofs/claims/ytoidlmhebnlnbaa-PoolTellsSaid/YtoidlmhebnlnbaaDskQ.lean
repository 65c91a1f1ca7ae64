/- Sectors of bytes, plain: what a crash, a flush leave. -/
import Derived.Test.YtoidlmhebnlnbaaDskP
set_option linter.unusedVariables false
set_option linter.unusedSimpArgs false
namespace Go.Proofs.Ytoidlmhebnlnbaa
open Go.ChangeShapes Go.WideShapes Go.ChangeAt Go.RowKit Go.MapKept

theorem sec_ext {b b' : List Byte} {n : Nat} (h : b.length = 512 * n) (h' : b'.length = 512 * n) (hs : ∀ k, k < n → sec b k = sec b' k) : b = b' := by
  apply List.ext_getElem?
  intro i
  by_cases hi : i < 512 * n
  · have hk : i / 512 < n := by omega
    have := congrArg (·[i % 512]?) (hs (i / 512) hk)
    simp only [sec_get] at this
    rw [if_pos (by omega), if_pos (by omega), show 512 * (i / 512) + i % 512 = i by omega] at this
    exact this
  · rw [List.getElem?_eq_none (by omega), List.getElem?_eq_none (by omega)]
theorem cget_none_at {M : List (Int × List Byte)} {k : Int} (h : cget M k = none) : ∀ (i : Nat) (p : Int × List Byte), M[i]? = some p → p.1 ≠ k := by
  induction M with
  | nil => intro i p hp; simp at hp
  | cons q M ih =>
    obtain ⟨qk, qv⟩ := q
    rw [cget] at h
    by_cases h0 : qk = k
    · rw [if_pos h0] at h; cases h
    · rw [if_neg h0] at h
      intro i p hp
      cases i with
      | zero => simp only [List.getElem?_cons_zero, Option.some.injEq] at hp; subst hp; exact h0
      | succ i => simp only [List.getElem?_cons_succ] at hp; exact ih h i p hp
theorem cget_some_at {M : List (Int × List Byte)} {k : Int} {x : List Byte} (h : cget M k = some x) : ∃ i : Nat, i < M.length ∧ M[i]? = some (k, x) := by
  induction M with
  | nil => cases h
  | cons q M ih =>
    obtain ⟨qk, qv⟩ := q
    rw [cget] at h
    by_cases h0 : qk = k
    · rw [if_pos h0] at h
      simp only [Option.some.injEq] at h
      subst h h0
      exact ⟨0, by simp, rfl⟩
    · rw [if_neg h0] at h
      obtain ⟨i, h1, h2⟩ := ih h
      exact ⟨i + 1, by simpa using h1, by simpa using h2⟩
theorem sec_crashB {f : Nat → Nat} {M : List (Int × List Byte)} {b : List Byte} {n k : Nat} (hb : b.length = 512 * n) (hM : ∀ p ∈ M, 0 ≤ p.1 ∧ p.1 < n ∧ p.2.length = 512) (hn : (M.map (·.1)).Nodup) (hf : ∀ i, f i ≤ 512) : ∀ j,
    (∀ (i : Nat) x, i < j → M[i]? = some ((k : Int), x) → sec (crashB f M b j) k = x.take (f i) ++ (sec b k).drop (f i)) ∧ ((∀ (i : Nat) (p : Int × List Byte), i < j → M[i]? = some p → p.1 ≠ k) → sec (crashB f M b j) k = sec b k)
  | 0 => ⟨fun i x hi => absurd hi (by omega), fun _ => rfl⟩
  | j + 1 => by
    have ih := sec_crashB (k := k) hb hM hn hf j
    have hlen := crashB_len (f := f) hb hM j
    have huniq : ∀ (i i' : Nat) (p q : Int × List Byte), M[i]? = some p → M[i']? = some q → p.1 = q.1 → i = i' := fun i i' p q h1 h2 h3 => by
      have g1 : (M.map (·.1))[i]? = some p.1 := by rw [List.getElem?_map, h1]; rfl
      have g2 : (M.map (·.1))[i']? = some p.1 := by rw [List.getElem?_map, h2, h3]; rfl
      have hi := (List.getElem?_eq_some_iff.1 g1).1
      have hi' := (List.getElem?_eq_some_iff.1 g2).1
      rw [List.getElem?_eq_getElem hi] at g1
      rw [List.getElem?_eq_getElem hi'] at g2
      exact (List.getElem_inj hn).1 (by simp only [Option.some.injEq] at g1 g2; rw [g1, g2])
    cases hj : M[j]? with
    | none =>
      have hc : crashB f M b (j + 1) = crashB f M b j := by rw [crashB, hj]
      rw [hc]
      refine ⟨fun i x hi hx => ?_, fun h => ih.2 (fun i p hi => h i p (by omega))⟩
      have : i ≠ j := fun e => by subst e; rw [hj] at hx; cases hx
      exact ih.1 i x (by omega) hx
    | some p =>
      have hp := hM p (List.mem_of_getElem? hj)
      have hc : crashB f M b (j + 1) = splice (crashB f M b j) (512 * p.1.toNat) (p.2.take (f j)) := by rw [crashB, hj]
      rw [hc]
      by_cases hk : p.1 = (k : Int)
      · have hkk : p.1.toNat = k := by omega
        have hno : ∀ (i : Nat) (q : Int × List Byte), i < j → M[i]? = some q → q.1 ≠ k := fun i q hi hq e => by
          have := huniq i j q p hq hj (by rw [e, hk])
          omega
        have hs := sec_splice_same (k := k) (x := p.2.take (f j)) hlen (by omega) (by rw [List.length_take]; omega)
        rw [ih.2 hno, show (p.2.take (f j)).length = f j from by rw [List.length_take, hp.2.2]; have := hf j; omega] at hs
        rw [hkk]
        refine ⟨fun i x hi hx => ?_, fun h => absurd hk (h j p (by omega) hj)⟩
        have hij := huniq i j _ p hx hj hk.symm
        subst hij
        rw [hj] at hx
        simp only [Option.some.injEq] at hx
        rw [hs, hx]
      · have hkk : k ≠ p.1.toNat := by omega
        rw [sec_splice_other hlen (by omega) (by rw [List.length_take]; omega) hkk]
        refine ⟨fun i x hi hx => ?_, fun h => ih.2 (fun i q hi => h i q (by omega))⟩
        have : i ≠ j := fun e => by
          subst e
          rw [hj] at hx
          simp only [Option.some.injEq] at hx
          rw [hx] at hk
          exact hk rfl
        exact ih.1 i x (by omega) hx
/-- The bytes behind a flush. -/
def flushB (M : List (Int × List Byte)) (b : List Byte) : List Byte := crashB (fun _ => 512) M b M.length
theorem flushB_len {M : List (Int × List Byte)} {b : List Byte} {n : Nat} (hb : b.length = 512 * n) (hM : ∀ p ∈ M, 0 ≤ p.1 ∧ p.1 < n ∧ p.2.length = 512) : (flushB M b).length = 512 * n := crashB_len hb hM _
theorem sec_flushB {M : List (Int × List Byte)} {b : List Byte} {n k : Nat} (hb : b.length = 512 * n) (hk : k < n) (hM : ∀ p ∈ M, 0 ≤ p.1 ∧ p.1 < n ∧ p.2.length = 512) (hn : (M.map (·.1)).Nodup) : sec (flushB M b) k = (cget M k).getD (sec b k) := by
  have h := sec_crashB (f := fun _ => 512) (k := k) hb hM hn (fun _ => Nat.le_refl _) M.length
  unfold flushB
  cases hc : cget M (k : Int) with
  | none => exact h.2 (fun i p _ hp => cget_none_at hc i p hp)
  | some x =>
    obtain ⟨i, hi, hx⟩ := cget_some_at hc
    have hl := (hM _ (List.mem_of_getElem? hx)).2.2
    rw [h.1 i x hi hx]
    simp only at hl
    rw [List.take_of_length_le (by omega), List.drop_of_length_le (by rw [sec_len hb hk]; omega), List.append_nil]; rfl
theorem flushB_of {M : List (Int × List Byte)} {b b' : List Byte} {n : Nat} (hb : b.length = 512 * n) (hb' : b'.length = 512 * n) (hM : ∀ p ∈ M, 0 ≤ p.1 ∧ p.1 < n ∧ p.2.length = 512) (hn : (M.map (·.1)).Nodup) (h : ∀ k, k < n → sec b' k = (cget M k).getD (sec b k)) : b' = flushB M b :=
  sec_ext hb' (flushB_len hb hM) (fun k hk => by rw [h k hk, sec_flushB hb hk hM hn])
end Go.Proofs.Ytoidlmhebnlnbaa
