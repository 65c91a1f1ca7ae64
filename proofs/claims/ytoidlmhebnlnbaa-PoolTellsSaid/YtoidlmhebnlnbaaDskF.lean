/- A disk: bytes copied into a sector. -/
import Derived.Test.YtoidlmhebnlnbaaDskE
import Derived.Laws.CopyOwn
set_option linter.unusedVariables false
set_option linter.unusedSimpArgs false
namespace Go.Proofs.Ytoidlmhebnlnbaa
open Go.ChangeShapes Go.WideShapes Go.ChangeAt Go.RowKit Go.MapKept

theorem splice_len {b xs : List Byte} {off : Nat} (h : off + xs.length ≤ b.length) : (splice b off xs).length = b.length := length_splice b off xs h
theorem splice_take {α : Type} (L cs : List α) (off n : Nat) (h : off + cs.length ≤ n) (hL : off ≤ L.length) : (L.take off ++ cs ++ L.drop (off + cs.length)).take n = (L.take n).take off ++ (cs ++ (L.take n).drop (off + cs.length)) := by
  have h1 : (L.take off).length = off := by rw [List.length_take]; omega
  rw [List.append_assoc, List.take_append, List.take_append, h1, List.take_of_length_le (by omega : (L.take off).length ≤ n), List.take_of_length_le (by omega : cs.length ≤ n - off), List.take_take, Nat.min_eq_left (by omega), List.drop_take]
  congr 3
  omega
theorem vbs_splice (b xs : List Byte) (off : Nat) : vbs (splice b off xs) = (vbs b).take off ++ (vbs xs ++ (vbs b).drop (off + xs.length)) := by
  unfold splice
  rw [vbs_append, vbs_append, vbs_take, vbs_drop]
theorem TB.row (g : Nat) (w : World) (cs : Array Value) : TB g w (w.setRow g cs) := ⟨rfl, rfl, rfl, by simp, fun k _ hk => setRow_other w g k cs (fun e => hk (by simp [e]))⟩
theorem run_copy_sec {w : World} {base gb m c : Nat} {b : List Byte} (ho : Own w base (.slice (some ⟨gb, 0, none⟩) m c) b) (off d e : Nat) (A : Option Addr) (ca : Nat) (xs : List Byte) (hr : Rd w A xs) (hx : xs.length ≤ d) (hfit : off + xs.length ≤ b.length) :
    ∃ w', (∀ ty, (Builtin.copy_ #[29, 29] ty #[.slice (some ⟨gb, off, none⟩) d e, .slice A xs.length ca]).run Try.prog w = .ok (goInt xs.length) w') ∧ Own w' base (.slice (some ⟨gb, 0, none⟩) m c) (splice b off xs) ∧ TB gb w w' := by
  obtain ⟨i, hi, _, hsz, _⟩ := info_parts info_u8
  have hsz1 : (Try.prog.info? 5).map (·.size) = some 1 := by rw [hi]; simp [hsz]
  by_cases h0 : xs.length = 0
  · obtain rfl : xs = [] := List.eq_nil_of_length_eq_zero h0
    refine ⟨w, fun ty => run_copy_none (P := Try.prog) w _ _ ty _ _ _ _ _ _ _ Try.underlying29 hsz1 (by simp), ?_, TB.refl _ _⟩
    have : splice b off [] = b := by simp [splice]
    rw [this]; exact ho
  · obtain ⟨b0, o0, rfl, hb0, hcell⟩ := hr.form (by omega)
    have hO := ho
    unfold Own OwnV at ho
    rcases ho with ⟨l1, ⟨l2, -⟩ | ⟨g, cap, cur, l3, l4, l5, l6, l7, l8, l9⟩⟩
    · cases l2
    · simp only [Value.slice.injEq, Option.some.injEq, Addr.mk.injEq] at l3
      obtain ⟨⟨rfl, -, -⟩, hm, rfl⟩ := l3
      rw [vbs_length] at l1 l6 l9 hm
      rw [Nat.mul_one] at l1 l8 l9
      have hcl : b.length ≤ cur.size := by omega
      have hrun := fun ty => run_copy_row (P := Try.prog) w 29 29 ty 5 gb off d e ⟨b0, o0, none⟩ xs.length ca cur 5 (vbs xs) Try.underlying29 hsz1 l5 (by rw [vbs_length]; exact (Nat.min_eq_left hx).symm) (fun j v hj => by
        have hjl : j < xs.length := by
          have := (List.getElem?_eq_some_iff.1 hj).1
          rwa [vbs_length] at this
        have : (⟨b0, o0, none⟩ : Addr).add j = ⟨b0, o0 + j, none⟩ := by unfold Addr.add; split <;> simp_all
        rw [this, hcell j hjl]
        rw [vbs_get? xs j hjl] at hj
        exact hj) (by rw [vbs_length]; omega) (vbs_oneCell xs)
      simp only [vbs_length] at hrun
      refine ⟨_, hrun, ?_, TB.row _ _ _⟩
      have hrow := setRow_heap w gb cur (cur.toList.take off ++ vbs xs ++ cur.toList.drop (off + xs.length)).toArray _ _ l5
      unfold Own OwnV
      rw [vbs_length, splice_len hfit]
      refine ⟨by rw [vbs_length, splice_len hfit]; omega, .inr ⟨gb, c, _, by rw [hm], l4, hrow, by omega, l7, ?_, ?_⟩⟩
      · simp only [List.size_toArray, List.length_append, List.length_take, List.length_drop, vbs_length, Array.length_toList]
        omega
      · have hst := splice_take cur.toList (vbs xs) off b.length (by rw [vbs_length]; exact hfit) (by rw [Array.length_toList]; omega)
        rw [vbs_length] at hst
        rw [Nat.mul_one]
        rw [hst, l9, vbs_splice]
/-- Bytes copied into the disk's. -/
theorem DskC.copied {w w' : World} {F : List Nat} {g n gb c gm : Nat} {O : Option Addr} {oc : Nat} {L : Option Nat} {V : List (Int × Value)} {D : DiskSt} {ord : List Int} (h : DskC w F g n gb c gm O oc L V D ord) (b : List Byte) (ho : Own w' 0 (.slice (some ⟨gb, 0, none⟩) (512 * n) c) b) (htb : TB gb w w') :
    DskC w' F g n gb c gm O oc L V { D with b := b } ord ∧ TS F w w' := by
  have hts : TS [gb] w w' := TS.tb htb (by simp)
  have hnd := h.nodup
  unfold dctl at hnd
  have hne : ∀ y ∈ [g, gm] ++ (optBlk O ++ L.toList), y ∉ [gb] := by
    intro y hy hm
    simp only [List.mem_singleton] at hm
    subst hm
    simp only [List.cons_append, List.nil_append, List.nodup_cons, List.mem_cons, List.mem_append, not_or] at hnd hy
    obtain ⟨⟨a1, a2, a3, a4⟩, ⟨b1, b2, b3⟩, ⟨c1, c2⟩, d⟩ := hnd
    rcases hy with rfl | rfl | hy | hy
    · exact a1 rfl
    · exact b1 rfl
    · exact b2 hy
    · exact b3 hy
  refine ⟨⟨?_, ho, h.map.ts hts (hne gm (by simp)), ?_, ?_, ?_, h.nodup, h.mem, fun x hx => Nat.lt_of_lt_of_le (h.lt x hx) hts.size⟩, TS.tb htb (h.mem gb (by simp [dctl]))⟩
  · rw [hts.block g (Array.getElem?_eq_some_iff.1 h.row).1 (hne g (by simp))]; exact h.row
  · exact h.vals.move (fun A x hr hb => hts.rd hr (fun ad ha hf => (hb ad ha).2 (by simp at hf; simp [dctl, hf]))) (fun b hb hb' => ⟨hb, hb'⟩)
  · exact hts.ownV h.order (fun b hb => by
      cases O with
      | none => cases hb
      | some ad => cases hb; exact hne _ (by simp [optBlk]))
  · have h6 := h.fuse
    unfold FuseAt at *
    simp only
    revert h6
    generalize D.fuse = fz
    intro h6
    cases L with
    | none => cases fz with
      | none => trivial
      | some z => exact h6
    | some l => cases fz with
      | none => exact h6
      | some z =>
        simp only at h6 ⊢
        rw [hts.block l (Array.getElem?_eq_some_iff.1 h6).1 (hne l (by simp))]; exact h6
end Go.Proofs.Ytoidlmhebnlnbaa
