/- Sectors of bytes, plain: a splice changes its own sector alone. -/
import Derived.Test.YtoidlmhebnlnbaaDskJ
set_option linter.unusedVariables false
set_option linter.unusedSimpArgs false
namespace Go.Proofs.Ytoidlmhebnlnbaa
open Go.ChangeShapes Go.WideShapes Go.ChangeAt Go.RowKit Go.MapKept

theorem sec_get (b : List Byte) (k i : Nat) : (sec b k)[i]? = if i < 512 then b[512 * k + i]? else none := by
  unfold sec
  rw [List.getElem?_take, List.getElem?_drop]
theorem splice_get (b x : List Byte) (off i : Nat) (h : off + x.length ≤ b.length) : (splice b off x)[i]? = if i < off then b[i]? else if i < off + x.length then x[i - off]? else b[i]? := by
  unfold splice
  rw [List.getElem?_append]
  have hl : (b.take off).length = off := by rw [List.length_take]; omega
  rw [hl]
  by_cases h1 : i < off
  · rw [if_pos h1, if_pos h1, List.getElem?_take, if_pos h1]
  · rw [if_neg h1, if_neg h1, List.getElem?_append]
    by_cases h2 : i < off + x.length
    · rw [if_pos (show i - off < x.length by omega), if_pos h2]
    · rw [if_neg (show ¬ i - off < x.length by omega), if_neg h2, List.getElem?_drop]
      congr 1; omega
theorem sec_splice_other {b x : List Byte} {k k' n : Nat} (hb : b.length = 512 * n) (hk : k < n) (hx : x.length ≤ 512) (hne : k' ≠ k) : sec (splice b (512 * k) x) k' = sec b k' := by
  apply List.ext_getElem?
  intro i
  rw [sec_get, sec_get]
  by_cases hi : i < 512
  · rw [if_pos hi, if_pos hi, splice_get _ _ _ _ (by omega)]
    by_cases h1 : 512 * k' + i < 512 * k
    · rw [if_pos h1]
    · rw [if_neg h1, if_neg (by omega)]
  · rw [if_neg hi, if_neg hi]
theorem sec_splice_same {b x : List Byte} {k n : Nat} (hb : b.length = 512 * n) (hk : k < n) (hx : x.length ≤ 512) : sec (splice b (512 * k) x) k = x ++ (sec b k).drop x.length := by
  apply List.ext_getElem?
  intro i
  rw [sec_get, List.getElem?_append, List.getElem?_drop, sec_get]
  by_cases hi : i < 512
  · rw [if_pos hi, splice_get _ _ _ _ (by omega), if_neg (by omega)]
    by_cases h1 : i < x.length
    · rw [if_pos (by omega), if_pos h1]; congr 1; omega
    · rw [if_neg (by omega), if_neg h1, if_pos (by omega)]; congr 1; omega
  · rw [if_neg hi, if_neg (by omega), if_neg (by omega)]
theorem sec_replicate (n k : Nat) (v : Byte) (hk : k < n) : sec (List.replicate (512 * n) v) k = List.replicate 512 v := by
  apply List.ext_getElem?
  intro i
  rw [sec_get, List.getElem?_replicate, List.getElem?_replicate]
  by_cases hi : i < 512
  · rw [if_pos hi, if_pos hi, if_pos (by omega)]
  · rw [if_neg hi, if_neg hi]
theorem sdWrite_ok {D : DiskSt} {n : Nat} {k : Int} {xs : List Byte} (h0 : 0 ≤ k) (h1 : k < n) (hl : xs.length = 512) (hf : D.fuse = none) : sdWrite D n k xs = (0, ⟨D.b, cput D.M k xs, none⟩) := by
  unfold sdWrite
  rw [if_neg (by omega), hf]
  simp [ffail]
theorem sdRead_ok {D : DiskSt} {n : Nat} {k : Int} (h0 : 0 ≤ k) (h1 : k < n) (hf : D.fuse = none) : sdRead D n k = ((cget D.M k).getD (sec D.b k.toNat), 0, D) := by
  unfold sdRead
  rw [if_neg (by omega), hf]
  cases D
  simp only [ffail] at hf ⊢
  rw [hf]; simp
/-- A disk that lies in what was made since w0. -/
structure DW (w0 w : World) (F : List Nat) (g n : Nat) (D : DiskSt) : Prop where
  dsk : Dsk w F g n D
  fb : FB w0 w
  own : ∀ x ∈ F, w0.heap.size ≤ x
theorem DW.res {w0 w w' : World} {F : List Nat} {g n : Nat} {D D' : DiskSt} (h : DW w0 w F g n D) (k : DskRes w F g n D' w') : ∃ F', DW w0 w' F' g n D' ∧ TS F w w' ∧ ∀ x ∈ F', x ∈ F ∨ w.heap.size ≤ x := by
  obtain ⟨F', h1, h2, h3⟩ := k
  exact ⟨F', ⟨h2, h.fb.ts h3 h.own, fun x hx => (h1 x hx).elim (h.own x) (fun h' => Nat.le_trans h.fb.le h')⟩, h3, h1⟩
theorem DW.ts {w0 w w' : World} {F : List Nat} {g n : Nat} {D D' : DiskSt} (h : DW w0 w F g n D) (k : Dsk w' F g n D') (t : TS F w w') : DW w0 w' F g n D' := ⟨k, h.fb.ts t h.own, h.own⟩
theorem DW.fbn {w0 w w' : World} {F : List Nat} {g n : Nat} {D : DiskSt} (h : DW w0 w F g n D) (k : FB w w') : DW w0 w' F g n D := ⟨h.dsk.fb k, h.fb.trans k, h.own⟩
theorem DW.notin {w0 w : World} {F : List Nat} {g n : Nat} {D : DiskSt} (h : DW w0 w F g n D) {x : Nat} (hx : w.heap.size ≤ x) : x ∉ F := fun hm => by have := h.dsk.lt x hm; omega
end Go.Proofs.Ytoidlmhebnlnbaa
