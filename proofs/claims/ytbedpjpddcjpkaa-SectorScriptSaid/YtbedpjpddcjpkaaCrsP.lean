/- Sectors, plain: what was flushed, what was written last, and what a crash leaves of them. -/
import Derived.Test.YtbedpjpddcjpkaaDskR
set_option linter.unusedVariables false
set_option linter.unusedSimpArgs false
namespace Go.Proofs.Ytbedpjpddcjpkaa
open Go.ChangeShapes Go.WideShapes Go.ChangeAt Go.RowKit Go.MapKept

theorem cget_cput (M : List (Int × List Byte)) (k k' : Int) (x : List Byte) : cget (cput M k x) k' = if k' = k then some x else cget M k' := by
  induction M with
  | nil =>
    rw [cput, cget, cget]
    by_cases h : k = k'
    · rw [if_pos h, if_pos h.symm]
    · rw [if_neg h, if_neg (fun e => h e.symm)]; rfl
  | cons p M ih =>
    obtain ⟨pk, pv⟩ := p
    rw [cput]
    by_cases h : pk = k
    · rw [if_pos h, cget, cget]
      by_cases h2 : k = k'
      · rw [if_pos h2, if_pos h2.symm]
      · rw [if_neg h2, if_neg (fun e => h2 e.symm), if_neg (by rw [h]; exact h2)]
    · rw [if_neg h, cget, cget]
      by_cases h2 : pk = k'
      · rw [if_pos h2, if_neg (by rw [← h2]; exact h), if_pos h2]
      · rw [if_neg h2, ih, if_neg h2]
/-- fl: as at the last flush; la: as written last. -/
structure Lists (D : DiskSt) (n : Nat) (fl la : List (List Byte)) : Prop where
  nf : fl.length = n
  nl : la.length = n
  f : ∀ k, k < n → fl[k]? = some (sec D.b k)
  l : ∀ k, k < n → la[k]? = some ((cget D.M (k : Int)).getD (sec D.b k))
theorem Lists.start (n : Nat) : Lists ⟨List.replicate (512 * n) 0#8, [], none⟩ n (List.replicate n (List.replicate 512 0#8)) (List.replicate n (List.replicate 512 0#8)) :=
  ⟨List.length_replicate, List.length_replicate, fun k hk => by rw [sec_replicate n k _ hk, List.getElem?_replicate, if_pos hk], fun k hk => by rw [sec_replicate n k _ hk, List.getElem?_replicate, if_pos hk]; rfl⟩
theorem Lists.write {D : DiskSt} {n : Nat} {fl la : List (List Byte)} (h : Lists D n fl la) (k : Nat) (hk : k < n) (x : List Byte) : Lists ⟨D.b, cput D.M (k : Int) x, none⟩ n fl (la.set k x) :=
  ⟨h.nf, by rw [List.length_set]; exact h.nl, h.f, fun j hj => by
    rw [cget_cput, List.getElem?_set]
    by_cases e : k = j
    · subst e; rw [if_pos rfl, if_pos rfl, if_pos (by rw [h.nl]; exact hk)]; rfl
    · rw [if_neg e, if_neg (by omega)]; exact h.l j hj⟩
theorem Lists.flush {D : DiskSt} {n : Nat} {fl la : List (List Byte)} (h : Lists D n fl la) (hok : D.ok n) (hn : (D.M.map (·.1)).Nodup) : Lists ⟨flushB D.M D.b, [], none⟩ n la la :=
  ⟨h.nl, h.nl, fun k hk => by rw [sec_flushB hok.len hk hok.M hn]; exact h.l k hk, fun k hk => by
    simp only [cget, Option.getD_none]
    rw [sec_flushB hok.len hk hok.M hn]; exact h.l k hk⟩
theorem Lists.read {D : DiskSt} {n : Nat} {fl la : List (List Byte)} (h : Lists D n fl la) (k : Nat) (hk : k < n) : (cget D.M (k : Int)).getD (sec D.b ((k : Int).toNat)) = la[k]'(by rw [h.nl]; exact hk) := by
  have := h.l k hk
  rw [List.getElem?_eq_getElem (by rw [h.nl]; exact hk)] at this
  simp only [Option.some.injEq] at this
  rw [Int.toNat_natCast]; exact this.symm
theorem Lists.len {D : DiskSt} {n : Nat} {fl la : List (List Byte)} (h : Lists D n fl la) (hok : D.ok n) (k : Nat) (hk : k < n) : (fl[k]'(by rw [h.nf]; exact hk)).length = 512 ∧ (la[k]'(by rw [h.nl]; exact hk)).length = 512 := by
  have e1 := h.f k hk
  have e2 := h.l k hk
  rw [List.getElem?_eq_getElem (by rw [h.nf]; exact hk)] at e1
  rw [List.getElem?_eq_getElem (by rw [h.nl]; exact hk)] at e2
  simp only [Option.some.injEq] at e1 e2
  rw [e1, e2]
  refine ⟨sec_len hok.len hk, ?_⟩
  cases hg : cget D.M (k : Int) with
  | none => exact sec_len hok.len hk
  | some x =>
    obtain ⟨i, hi, hx⟩ := cget_some_at hg
    exact (hok.M _ (List.mem_of_getElem? hx)).2.2
/-- The sector that is torn. -/
def tornAt (M : List (Int × List Byte)) (T : Int) : Option Int := if 0 ≤ T then (M[T.toNat]?).map (·.1) else none
/-- How many bytes of a torn sector are the latest. -/
def cutAt (Y : Int) : Nat := (min (max 0 Y) 512).toNat
theorem cutAt_le (Y : Int) : cutAt Y ≤ 512 := by unfold cutAt; omega
/-- What a crash leaves of a sector. -/
theorem Lists.crash {D : DiskSt} {n : Nat} {fl la : List (List Byte)} (h : Lists D n fl la) (hok : D.ok n) (hn : (D.M.map (·.1)).Nodup) (keep : List Bool) (T Y : Int) (k : Nat) (hk : k < n) :
    sec (crashB (keptLen keep T Y) D.M D.b D.M.length) k = fl[k]'(by rw [h.nf]; exact hk) ∨ sec (crashB (keptLen keep T Y) D.M D.b D.M.length) k = la[k]'(by rw [h.nl]; exact hk) ∨
    (tornAt D.M T = some (k : Int) ∧ (sec (crashB (keptLen keep T Y) D.M D.b D.M.length) k).take (cutAt Y) = (la[k]'(by rw [h.nl]; exact hk)).take (cutAt Y) ∧ (sec (crashB (keptLen keep T Y) D.M D.b D.M.length) k).drop (cutAt Y) = (fl[k]'(by rw [h.nf]; exact hk)).drop (cutAt Y)) := by
  have hf : ∀ i, keptLen keep T Y i ≤ 512 := fun i => by
    unfold keptLen
    split
    · omega
    · split <;> omega
  have hc := sec_crashB (f := keptLen keep T Y) (k := k) hok.len hok.M hn hf D.M.length
  have e1 := h.f k hk
  have e2 := h.l k hk
  rw [List.getElem?_eq_getElem (by rw [h.nf]; exact hk)] at e1
  rw [List.getElem?_eq_getElem (by rw [h.nl]; exact hk)] at e2
  simp only [Option.some.injEq] at e1 e2
  rw [e1, e2]
  cases hg : cget D.M (k : Int) with
  | none => exact .inl (hc.2 fun i p _ hp => cget_none_at hg i p hp)
  | some x =>
    obtain ⟨i, hi, hx⟩ := cget_some_at hg
    have hxl := (hok.M _ (List.mem_of_getElem? hx)).2.2
    simp only at hxl
    have hsl := sec_len hok.len hk
    rw [hc.1 i x hi hx, Option.getD_some]
    have hkl : keptLen keep T Y i = 0 ∨ keptLen keep T Y i = 512 ∨ ((i : Int) = T ∧ keptLen keep T Y i = cutAt Y) := by
      unfold keptLen
      by_cases ht : (i : Int) = T ∧ 0 ≤ Y ∧ Y ≤ 512
      · rw [if_pos ht]
        refine .inr (.inr ⟨ht.1, ?_⟩)
        unfold cutAt
        omega
      · rw [if_neg ht]
        split
        · exact .inr (.inl rfl)
        · exact .inl rfl
    rcases hkl with e | e | ⟨e0, e⟩
    · rw [e]; left; simp
    · rw [e]; right; left; rw [List.take_of_length_le (by omega), List.drop_of_length_le (by omega), List.append_nil]
    · rw [e]
      right; right
      have hcl := cutAt_le Y
      refine ⟨?_, ?_, ?_⟩
      · unfold tornAt
        rw [if_pos (by omega), ← e0, Int.toNat_natCast, hx]; rfl
      · rw [List.take_append_of_le_length (by rw [List.length_take]; omega), List.take_take, Nat.min_self]
      · rw [List.drop_append, List.length_take, show cutAt Y - min (cutAt Y) x.length = 0 by omega, List.drop_zero, List.drop_of_length_le (by rw [List.length_take]; omega), List.nil_append]
/-- At most one sector is torn. -/
def TornN (M : List (Int × List Byte)) (T : Int) (j c : Nat) : Prop := c = 0 ∨ (c = 1 ∧ ∃ i : Nat, i < j ∧ tornAt M T = some (i : Int))
theorem TornN.le {M : List (Int × List Byte)} {T : Int} {j c : Nat} (h : TornN M T j c) : c ≤ 1 := by
  rcases h with rfl | ⟨rfl, -⟩ <;> omega
theorem TornN.same {M : List (Int × List Byte)} {T : Int} {j c : Nat} (h : TornN M T j c) : TornN M T (j + 1) c := by
  rcases h with rfl | ⟨rfl, i, hi, h⟩
  · exact .inl rfl
  · exact .inr ⟨rfl, i, by omega, h⟩
theorem TornN.more {M : List (Int × List Byte)} {T : Int} {j c : Nat} (h : TornN M T j c) (ht : tornAt M T = some (j : Int)) : TornN M T (j + 1) (c + 1) := by
  rcases h with rfl | ⟨rfl, i, hi, h⟩
  · exact .inr ⟨rfl, j, by omega, ht⟩
  · rw [ht] at h; simp only [Option.some.injEq] at h; omega
end Go.Proofs.Ytbedpjpddcjpkaa
