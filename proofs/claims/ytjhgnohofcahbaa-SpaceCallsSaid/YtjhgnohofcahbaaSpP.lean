/- space, plain: the bits of a space. -/
import Derived.Test.YtjhgnohofcahbaaSpF
import Derived.Test.YtjhgnohofcahbaaSpG
set_option linter.unusedVariables false
set_option linter.unusedSimpArgs false
namespace Go.Proofs.Ytjhgnohofcahbaa
open Go.ChangeShapes Go.WideShapes Go.ChangeAt Go.RowKit

/-- A byte of these bits. -/
def byteOf (f : Nat → Bool) : Byte :=
  (if f 0 then 1#8 else 0#8) ||| (if f 1 then 2#8 else 0#8) ||| (if f 2 then 4#8 else 0#8) ||| (if f 3 then 8#8 else 0#8) ||| (if f 4 then 16#8 else 0#8) ||| (if f 5 then 32#8 else 0#8) ||| (if f 6 then 64#8 else 0#8) ||| (if f 7 then 128#8 else 0#8)
theorem byteOf_at : ∀ (j : Fin 8) (b0 b1 b2 b3 b4 b5 b6 b7 : Bool),
    ((if b0 then 1#8 else 0#8) ||| (if b1 then 2#8 else 0#8) ||| (if b2 then 4#8 else 0#8) ||| (if b3 then 8#8 else 0#8) ||| (if b4 then 16#8 else 0#8) ||| (if b5 then 32#8 else 0#8) ||| (if b6 then 64#8 else 0#8) ||| (if b7 then 128#8 else 0#8) : BitVec 8).getLsbD j.1
      = (match j.1 with | 0 => b0 | 1 => b1 | 2 => b2 | 3 => b3 | 4 => b4 | 5 => b5 | 6 => b6 | _ => b7) := by decide
theorem byteOf_get (f : Nat → Bool) {j : Nat} (h : j < 8) : (byteOf f).getLsbD j = f j := by
  unfold byteOf
  rw [byteOf_at ⟨j, h⟩]
  match j, h with
  | 0, _ => rfl
  | 1, _ => rfl
  | 2, _ => rfl
  | 3, _ => rfl
  | 4, _ => rfl
  | 5, _ => rfl
  | 6, _ => rfl
  | 7, _ => rfl
theorem byteOf_ext {x y : Byte} (h : ∀ j, j < 8 → x.getLsbD j = y.getLsbD j) : x = y := BitVec.eq_of_getLsbD_eq fun i hi => h i hi
theorem byteOf_congr {f g : Nat → Bool} (h : ∀ j, j < 8 → f j = g j) : byteOf f = byteOf g := byteOf_ext fun j hj => by rw [byteOf_get f hj, byteOf_get g hj, h j hj]
/-- Byte m of the first k bits. -/
def spBt (us : List Bool) (k m : Nat) : Byte := byteOf fun j => decide (8 * m + j < k) && us.getD (8 * m + j) false
def spBits (us : List Bool) (L k : Nat) : List Byte := (List.range L).map (spBt us k)
theorem spBits_len (us : List Bool) (L k : Nat) : (spBits us L k).length = L := by simp [spBits]
theorem spBits_get {us : List Bool} {L k m : Nat} (h : m < L) : (spBits us L k)[m]? = some (spBt us k m) := by
  unfold spBits; rw [List.getElem?_map, List.getElem?_range h]; rfl
theorem spBt_zero (us : List Bool) (m : Nat) : spBt us 0 m = 0#8 := byteOf_ext fun j hj => by unfold spBt; rw [byteOf_get _ hj]; simp
theorem spBits_zero (us : List Bool) (L : Nat) : spBits us L 0 = List.replicate L 0#8 := by
  apply List.ext_getElem?
  intro i
  by_cases h : i < L
  · rw [spBits_get h, spBt_zero, List.getElem?_replicate, if_pos h]
  · rw [List.getElem?_eq_none (by rw [spBits_len]; omega), List.getElem?_replicate, if_neg h]
theorem spBt_other {us : List Bool} {k m : Nat} (h : m ≠ k / 8 ∨ us.getD k false = false) : spBt us (k + 1) m = spBt us k m := by
  refine byteOf_congr fun j hj => ?_
  by_cases e : 8 * m + j = k
  · rcases h with h | h
    · omega
    · rw [e, h]; simp
  · rw [show decide (8 * m + j < k + 1) = decide (8 * m + j < k) from by simp only [decide_eq_decide]; omega]
theorem shl1_get : ∀ (r j : Fin 8), ((1#8 : BitVec 8) <<< r.1).getLsbD j.1 = decide (j.1 = r.1) := by decide
theorem spBt_set {us : List Bool} {k : Nat} (h : us.getD k false = true) : spBt us (k + 1) (k / 8) = spBt us k (k / 8) ||| ((1#8 : BitVec 8) <<< (k % 8)) := by
  refine byteOf_ext fun j hj => ?_
  rw [BitVec.getLsbD_or]
  unfold spBt
  rw [byteOf_get _ hj, byteOf_get _ hj, shl1_get ⟨k % 8, by omega⟩ ⟨j, hj⟩]
  by_cases e : j = k % 8
  · have : 8 * (k / 8) + j = k := by omega
    rw [this, h]; simp [e]
  · rw [show decide (8 * (k / 8) + j < k + 1) = decide (8 * (k / 8) + j < k) from by simp only [decide_eq_decide]; omega]
    simp [e]
theorem spBits_used {us : List Bool} {L k : Nat} (h : us.getD k false = true) (hk : k / 8 < L) : spBits us L (k + 1) = (spBits us L k).set (k / 8) (spBt us k (k / 8) ||| ((1#8 : BitVec 8) <<< (k % 8))) := by
  apply List.ext_getElem?
  intro i
  rw [List.getElem?_set]
  by_cases hi : i < L
  · rw [spBits_get hi]
    by_cases e : k / 8 = i
    · subst e; rw [if_pos rfl, if_pos (by rw [spBits_len]; exact hi), spBt_set h]
    · rw [if_neg e, spBits_get hi, spBt_other (.inl (fun h => e h.symm))]
  · rw [List.getElem?_eq_none (by rw [spBits_len]; omega)]
    by_cases e : k / 8 = i
    · omega
    · rw [if_neg e, List.getElem?_eq_none (by rw [spBits_len]; omega)]
theorem spBits_free {us : List Bool} {L k : Nat} (h : us.getD k false = false) : spBits us L (k + 1) = spBits us L k := by
  unfold spBits
  exact List.map_congr_left fun m _ => spBt_other (.inr h)
/-- What Bytes returns. -/
def spBytes (P : Int) (us : List Bool) : List Byte := oword 4 (BitVec.ofInt 64 P) ++ spBits us ((us.length + 7) / 8) us.length
end Go.Proofs.Ytjhgnohofcahbaa
