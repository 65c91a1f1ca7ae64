/- Walks and laws that the claim's last text stands on, several texts in one file: DskA, DskB, DskC, Sched. Under the hypotheses that each theorem states. -/
import Derived.WalkSpells
import Derived.Test.YtoidlmhebnlnbaaDoorMCha
import Derived.Test.YtoidlmhebnlnbaaDoorMChb
/- A disk: the walks through made, Sectors, fails, Fail. -/
set_option linter.unusedVariables false
set_option linter.unusedSimpArgs false
namespace Go.Proofs.YtoidlmhebnlnbaaDoor
open Go.ChangeShapes Go.WideShapes Go.ChangeAt Go.RowKit Go.MapKept

/-- Something else has turned. -/
theorem Dsk.ts {w w' : World} {F F' : List Nat} {g n : Nat} {D : DiskSt} (h : Dsk w F g n D) (k : TS F' w w') (hd : ∀ x ∈ F', x ∉ F) : Dsk w' F g n D := by
  obtain ⟨gb, c, gm, O, oc, L, V, h1, h2, h3, h4, h5, h6, h7, h8, h9, h10⟩ := h
  have hn : ∀ x ∈ [g, gb, gm] ++ (optBlk O ++ L.toList), x ∉ F' := fun x hx hf => hd x hf (h8 x hx)
  refine ⟨gb, c, gm, O, oc, L, V, ?_, ?_, ?_, ?_, ?_, ?_, h7, h8, h9, fun x hx => Nat.lt_of_lt_of_le (h10 x hx) k.size⟩
  · rw [k.block g (Array.getElem?_eq_some_iff.1 h1).1 (hn g (by simp))]; exact h1
  · exact k.ownV h2 (fun b hb => by cases hb; exact hn gb (by simp))
  · exact h3.ts k (hn gm (by simp))
  · exact h4.move (fun A x hr hb => k.rd hr (fun ad ha hf => hd _ hf (hb ad ha).1)) (fun b h h' => ⟨h, h'⟩)
  · exact k.ownV h5 (fun b hb => by
      cases O with
      | none => cases hb
      | some ad => cases hb; exact hn _ (by simp [optBlk]))
  · unfold FuseAt at *
    revert h6
    generalize D.fuse = fz
    intro h6
    cases L with
    | none => cases fz with
      | none => trivial
      | some z => exact h6
    | some l => cases fz with
      | none => exact h6
      | some z =>
        simp only at h6 ⊢
        rw [k.block l (Array.getElem?_eq_some_iff.1 h6).1 (hn l (by simp))]; exact h6
theorem Dsk.fb {w w' : World} {F : List Nat} {g n : Nat} {D : DiskSt} (h : Dsk w F g n D) (k : FB w w') : Dsk w' F g n D := h.ts (F' := []) (TS.of k) (by simp)
theorem Dsk.lt {w : World} {F : List Nat} {g n : Nat} {D : DiskSt} (h : Dsk w F g n D) : ∀ x ∈ F, x < w.heap.size := by
  obtain ⟨gb, c, gm, O, oc, L, V, h1, h2, h3, h4, h5, h6, h7, h8, h9, h10⟩ := h
  exact h10
theorem Dsk.mem {w : World} {F : List Nat} {g n : Nat} {D : DiskSt} (h : Dsk w F g n D) : g ∈ F := by
  obtain ⟨gb, c, gm, O, oc, L, V, h1, h2, h3, h4, h5, h6, h7, h8, h9, h10⟩ := h
  exact h8 g (by simp)
theorem Dsk.ok {w : World} {F : List Nat} {g n : Nat} {D : DiskSt} (h : Dsk w F g n D) : D.ok n := by
  obtain ⟨gb, c, gm, O, oc, L, V, h1, h2, h3, h4, h5, h6, h7, h8, h9, h10⟩ := h
  exact h9
/-- The fuse: none; or a block of its own, which may be written. -/
theorem Dsk.fuse_cases {w : World} {F : List Nat} {g n : Nat} {D : DiskSt} (h : Dsk w F g n D) :
    (D.fuse = none ∧ w.cell? ⟨g, 3, none⟩ = some (.pointer none)) ∨
    ∃ l z, D.fuse = some z ∧ 0 ≤ z ∧ z ≤ 9223372036854775807 ∧ w.cell? ⟨g, 3, none⟩ = some (.pointer (some ⟨l, 0, none⟩)) ∧ w.cell? ⟨l, 0, none⟩ = some (.int .i64 z) ∧ w.frozen? ⟨l, 0, none⟩ = false ∧
      ∀ z', 0 ≤ z' ∧ z' ≤ 9223372036854775807 → Dsk (w.setCell ⟨l, 0, none⟩ (.int .i64 z')) F g n { D with fuse := some z' } ∧ TS F w (w.setCell ⟨l, 0, none⟩ (.int .i64 z')) := by
  obtain ⟨gb, c, gm, O, oc, L, V, h1, h2, h3, h4, h5, h6, h7, h8, h9, h10⟩ := h
  obtain ⟨q0, q1, q2, q3⟩ := row4 h1
  unfold FuseAt at h6
  cases L with
  | none =>
    left
    refine ⟨?_, q3⟩
    cases hf : D.fuse with
    | none => rfl
    | some z => rw [hf] at h6; exact absurd h6 (by simp)
  | some l =>
    right
    cases hf : D.fuse with
    | none => rw [hf] at h6; exact absurd h6 (by simp)
    | some z =>
      rw [hf] at h6
      simp only at h6
      have hz := h9.f z hf
      refine ⟨l, z, rfl, hz.1, hz.2, q3, by rw [cell_of_row _ _ _ _ _ _ h6]; rfl, frozen_row _ h6 0, fun z' hz' => ?_⟩
      have htb : TB l w (w.setCell ⟨l, 0, none⟩ (.int .i64 z')) := TB.set w 0 _
      have hts : TS [l] w (w.setCell ⟨l, 0, none⟩ (.int .i64 z')) := TS.tb htb (by simp)
      have hne : ∀ x ∈ [g, gb, gm] ++ optBlk O, x ∉ [l] := by
        intro x hx hl
        simp only [List.mem_singleton] at hl
        subst hl
        rw [← List.append_assoc, List.nodup_append] at h7
        exact h7.2.2 x hx x (by simp) rfl
      refine ⟨⟨gb, c, gm, O, oc, some l, V, ?_, ?_, ?_, ?_, ?_, ?_, h7, h8, ?_, fun x hx => by simpa using h10 x hx⟩, TS.tb htb (h8 l (by simp))⟩
      · rw [hts.block g (Array.getElem?_eq_some_iff.1 h1).1 (hne g (by simp))]; exact h1
      · exact hts.ownV h2 (fun b hb => by cases hb; exact hne gb (by simp))
      · exact h3.ts hts (hne gm (by simp))
      · exact h4.move (fun A x hr hb => hts.rd hr (fun ad ha hf => (hb ad ha).2 (by simp at hf; rw [hf]; simp))) (fun b h h' => ⟨h, h'⟩)
      · exact hts.ownV h5 (fun b hb => by
          cases O with
          | none => cases hb
          | some ad => cases hb; exact hne _ (by simp [optBlk]))
      · unfold FuseAt
        simp only
        rw [heap_setCell_same _ _ _ _ _ _ h6]; rfl
      · exact ⟨h9.len, h9.n1, h9.n2, h9.M, fun z'' hz'' => by cases hz''; exact hz'⟩
/-- The fuse taken away. -/
theorem Dsk.unfuse {w : World} {F : List Nat} {g n : Nat} {D : DiskSt} (h : Dsk w F g n D) :
    w.frozen? ⟨g, 3, none⟩ = false ∧ (∃ p, w.cell? ⟨g, 3, none⟩ = some (.pointer p)) ∧ Dsk (w.setCell ⟨g, 3, none⟩ (.pointer none)) F g n { D with fuse := none } ∧ TS F w (w.setCell ⟨g, 3, none⟩ (.pointer none)) := by
  obtain ⟨gb, c, gm, O, oc, L, V, h1, h2, h3, h4, h5, h6, h7, h8, h9, h10⟩ := h
  obtain ⟨q0, q1, q2, q3⟩ := row4 h1
  have hts : TS [g] w (w.setCell ⟨g, 3, none⟩ (.pointer none)) := TS.tb (TB.set w 3 _) (by simp)
  have hsub : ([g, gb, gm] ++ (optBlk O ++ ([] : List Nat))).Sublist ([g, gb, gm] ++ (optBlk O ++ L.toList)) := List.Sublist.append_left (List.Sublist.append_left (List.nil_sublist _) _) _
  have hne : ∀ x ∈ [gb, gm] ++ (optBlk O ++ L.toList), x ∉ [g] := by
    intro x hx hl
    simp only [List.mem_singleton] at hl
    subst hl
    simp only [List.cons_append, List.nil_append, List.nodup_cons] at h7
    exact h7.1 (by simpa using hx)
  refine ⟨frozen_row _ h1 3, ⟨_, q3⟩, ⟨gb, c, gm, O, oc, none, V, ?_, ?_, ?_, ?_, ?_, trivial, h7.sublist hsub, fun x hx => h8 x (hsub.subset hx), ⟨h9.len, h9.n1, h9.n2, h9.M, fun z hz => by cases hz⟩, fun x hx => by simpa using h10 x hx⟩, TS.tb (TB.set w 3 _) (h8 g (by simp))⟩
  · rw [heap_setCell_same _ _ _ _ _ _ h1]; rfl
  · exact hts.ownV h2 (fun b hb => by cases hb; exact hne gb (by simp))
  · exact h3.ts hts (hne gm (by simp))
  · exact h4.move (fun A x hr hb => hts.rd hr (fun ad ha hf => (hb ad ha).2 (by simp at hf; rw [hf]; simp))) (fun b h h' => ⟨h, fun hm => h' (hsub.subset hm)⟩)
  · exact hts.ownV h5 (fun b hb => by
      cases O with
      | none => cases hb
      | some ad => cases hb; exact hne _ (by simp [optBlk]))
/-- What a walk is given of it. -/
theorem Dsk.cells {w : World} {F : List Nat} {g n : Nat} {D : DiskSt} (h : Dsk w F g n D) : ∃ (gb c gm : Nat) (O : Option Addr) (oc : Nat) (L : Option Nat),
    w.cell? ⟨g, 0, none⟩ = some (.slice (some ⟨gb, 0, none⟩) (512 * n) c) ∧ w.cell? ⟨g, 1, none⟩ = some (.map (some gm)) ∧ w.cell? ⟨g, 2, none⟩ = some (.slice O D.M.length oc) ∧ w.cell? ⟨g, 3, none⟩ = some (.pointer (L.map fun l => ⟨l, 0, none⟩)) ∧
    w.frozen? ⟨g, 2, none⟩ = false ∧ w.frozen? ⟨g, 3, none⟩ = false ∧ 1 ≤ n ∧ n ≤ 32768 := by
  obtain ⟨gb, c, gm, O, oc, L, V, h1, h2, h3, h4, h5, h6, h7, h8, h9, h10⟩ := h
  obtain ⟨q0, q1, q2, q3⟩ := row4 h1
  exact ⟨gb, c, gm, O, oc, L, q0, q1, q2, q3, frozen_row _ h1 _, frozen_row _ h1 _, h9.n1, h9.n2⟩
set_option maxRecDepth 100000 in
set_option maxHeartbeats 400000 in
theorem dsk_made {w : World} {F : List Nat} {g n : Nat} {D : DiskSt} (h : Dsk w F g n D) :
    Calls Tryd.prog 53 #[.pointer (some ⟨g, 0, none⟩)] w fun e w' => e = .returned (.bool true) ∧ w = w' := by
  obtain ⟨gb, c, gm, O, oc, L, q0, q1, q2, q3, f2, f3, hn1, hn2⟩ := h.cells
  have hnil : ∀ W, (binOp .neq 99 (.map (some gm)) (.map none)).run Tryd.prog W = .ok (.bool true) W := fun W => run_neq_map_nil W 99 _ _ (some gm) Tryd.underlying99
  clear h
  go_enter Tryd.func53, Tryd.ntmps53
  go_wp2
  go_ret
  exact ⟨rfl, rfl⟩
set_option maxRecDepth 100000 in
set_option maxHeartbeats 400000 in
theorem dsk_Sectors {w : World} {F : List Nat} {g n : Nat} {D : DiskSt} (h : Dsk w F g n D) :
    Calls Tryd.prog 29 #[.pointer (some ⟨g, 0, none⟩)] w fun e w' => e = .returned (.int .i64 (n : Int)) ∧ w = w' := by
  obtain ⟨gb, c, gm, O, oc, L, q0, q1, q2, q3, f2, f3, hn1, hn2⟩ := h.cells
  have H := Lib.hid h
  have hq : ((512 * n : Nat) : Int).tdiv 512 = (n : Int) := by rw [Int.tdiv_eq_ediv_of_nonneg (by omega)]; omega
  have hq2 : (512 * (n : Int)).tdiv 512 = (n : Int) := by rw [Int.tdiv_eq_ediv_of_nonneg (by omega)]; omega
  clear h
  go_enter Tryd.func29, Tryd.ntmps29
  go_wp2_with fail
  refine (dsk_made H.out).mono ?_
  rintro e w1 ⟨rfl, rfl⟩
  go_wp2
  go_ret
  refine ⟨?_, rfl⟩
  first | rfl | (congr 2)
/-- Does the operation fail; and what is left of the fuse. -/
def ffail : Option Int → Bool × Option Int
  | none => (false, none)
  | some z => if 0 < z then (false, some (z - 1)) else (true, none)
set_option maxRecDepth 100000 in
set_option maxHeartbeats 1000000 in
theorem dsk_fails {w : World} {F : List Nat} {g n : Nat} {D : DiskSt} (h : Dsk w F g n D) :
    Calls Tryd.prog 83 #[.pointer (some ⟨g, 0, none⟩)] w fun e w' => e = .returned (.bool (ffail D.fuse).1) ∧ Dsk w' F g n { D with fuse := (ffail D.fuse).2 } ∧ TS F w w' := by
  have H := Lib.hid h
  rcases h.fuse_cases with ⟨hf, q3⟩ | ⟨l, z, hf, hz0, hz1, q3, q4, f4, hset⟩
  · have hD : ({ D with fuse := (ffail none).2 } : DiskSt) = D := by
      cases D; simp only [ffail] at hf ⊢; rw [← hf]
    rw [hf, hD]
    have HH := Lib.hid H.out
    clear hf hD h H
    go_enter Tryd.func83, Tryd.ntmps83
    go_wp2
    go_ret
    exact ⟨rfl, HH.out, TS.refl _ _⟩
  · by_cases hp : 0 < z
    · have hS := hset (z - 1) (by omega)
      have HS := Lib.hid hS
      have hw1 : IntKind.i64.wrap (z - 1) = z - 1 := by rw [IntKind.wrap_i64]; omega
      rw [hf, ffail, if_pos hp]
      clear hset hS h hf
      go_enter Tryd.func83, Tryd.ntmps83
      go_wp2
      go_ret
      exact ⟨rfl, HS.out.1, HS.out.2⟩
    · obtain ⟨f3, -, hu1, hu2⟩ := h.unfuse
      have HS := Lib.hid (And.intro hu1 hu2)
      rw [hf, ffail, if_neg hp]
      clear hset hu1 hu2 h hf
      go_enter Tryd.func83, Tryd.ntmps83
      go_wp2
      go_ret
      exact ⟨rfl, HS.out.1, HS.out.2⟩
/-- A fuse laid in. -/
theorem Dsk.light {w : World} {F : List Nat} {g n : Nat} {D : DiskSt} (h : Dsk w F g n D) (hf : D.fuse = none) (l : Nat) (z : Int) (hl : w.heap[l]? = some (.cells #[.int .i64 z] 3 (0, 0))) (hn : l ∉ F) (hz : 0 ≤ z ∧ z ≤ 9223372036854775807) :
    Dsk (w.setCell ⟨g, 3, none⟩ (.pointer (some ⟨l, 0, none⟩))) (l :: F) g n { D with fuse := some z } ∧ TS F w (w.setCell ⟨g, 3, none⟩ (.pointer (some ⟨l, 0, none⟩))) := by
  obtain ⟨gb, c, gm, O, oc, L, V, h1, h2, h3, h4, h5, h6, h7, h8, h9, h10⟩ := h
  unfold FuseAt at h6
  cases L with
  | some l' => rw [hf] at h6; exact absurd h6 (by simp)
  | none =>
    have hts : TS [g] w (w.setCell ⟨g, 3, none⟩ (.pointer (some ⟨l, 0, none⟩))) := TS.tb (TB.set w 3 _) (by simp)
    have hlc : ∀ x ∈ [g, gb, gm] ++ (optBlk O ++ ([] : List Nat)), x ≠ l := fun x hx e => hn (e ▸ h8 x (by simpa using hx))
    have hne : ∀ x ∈ [gb, gm] ++ optBlk O, x ∉ [g] := by
      intro x hx hl
      simp only [List.mem_singleton] at hl
      subst hl
      simp only [List.cons_append, List.nil_append, List.nodup_cons] at h7
      exact h7.1 (by simpa using hx)
    refine ⟨⟨gb, c, gm, O, oc, some l, V, ?_, ?_, ?_, ?_, ?_, ?_, ?_, ?_, ⟨h9.len, h9.n1, h9.n2, h9.M, fun z' hz' => by cases hz'; exact hz⟩, ?_⟩, TS.tb (TB.set w 3 _) (h8 g (by simp))⟩
    · rw [heap_setCell_same _ _ _ _ _ _ h1]; rfl
    · exact hts.ownV h2 (fun b hb => by cases hb; exact hne gb (by simp))
    · exact h3.ts hts (hne gm (by simp))
    · exact h4.move (fun A x hr hb => hts.rd hr (fun ad ha hf => (hb ad ha).2 (by simp at hf; rw [hf]; simp))) (fun b h h' => ⟨List.mem_cons_of_mem _ h, fun hm => by
        simp only [Option.toList_some, List.mem_append, List.mem_singleton, List.mem_cons] at hm
        rcases hm with hm | hm | hm
        · exact h' (by simp only [List.mem_append]; exact .inl (by simpa using hm))
        · exact h' (by simp only [List.mem_append]; exact .inr (.inl hm))
        · rcases hm with hm | hm
          · exact hn (hm ▸ h)
          · cases hm⟩)
    · exact hts.ownV h5 (fun b hb => by
        cases O with
        | none => cases hb
        | some ad => cases hb; exact hne _ (by simp [optBlk]))
    · unfold FuseAt
      simp only
      rw [hts.block l (Array.getElem?_eq_some_iff.1 hl).1 (fun hm => by simp at hm; exact hlc g (by simp) hm.symm)]; exact hl
    · rw [Option.toList_some, ← List.append_assoc, List.nodup_append]
      refine ⟨by simpa using h7, by simp, fun a ha b hb => ?_⟩
      simp only [List.mem_singleton] at hb
      subst hb
      exact hlc a (by simpa using ha)
    · intro x hx
      rw [Option.toList_some, ← List.append_assoc, List.mem_append] at hx
      rcases hx with hx | hx
      · exact List.mem_cons_of_mem _ (h8 x (by simpa using hx))
      · simp only [List.mem_singleton] at hx; subst hx; exact List.mem_cons_self
    · intro x hx
      simp only [List.mem_cons] at hx
      rcases hx with rfl | hx
      · simpa using (Array.getElem?_eq_some_iff.1 hl).1
      · simpa using h10 x hx
/-- What an operation leaves: the disk, with blocks of its own and new ones; nothing else turned. -/
def DskRes (w : World) (F : List Nat) (g n : Nat) (D : DiskSt) (w' : World) : Prop := ∃ F', (∀ x ∈ F', x ∈ F ∨ w.heap.size ≤ x) ∧ Dsk w' F' g n D ∧ TS F w w'
end Go.Proofs.YtoidlmhebnlnbaaDoor
/- A disk: the walks through sector, Read. -/
set_option linter.unusedVariables false
set_option linter.unusedSimpArgs false
namespace Go.Proofs.YtoidlmhebnlnbaaDoor
open Go.ChangeShapes Go.WideShapes Go.ChangeAt Go.RowKit Go.MapKept

/-- x[k:k+n]. -/
theorem cut_at (A : Option Addr) (c : Nat) (xs : List Byte) (k n : Nat) (hk : k + n ≤ xs.length) (hc : xs.length ≤ c) :
    ∃ A', (∀ W, (Instr.slice 27 (.slice A xs.length c) (some (.int .i64 (k : Int))) (some (.int .i64 ((k : Int) + (n : Int)))) none).run Tryd.prog W = .ok (.slice A' n (c - k)) W) ∧ (∀ w, Rd w A xs → Rd w A' ((xs.drop k).take n)) ∧ (c ≠ k → A' = A.map (·.add k)) := by
  obtain ⟨i, hi, _, hsz, _⟩ := info_parts info_u8
  refine ⟨if c = k then A else A.map (·.add k), fun W => ?_, fun w h => ?_, fun h => if_neg h⟩
  · have hel : Tryd.prog.elem 27 = 5 := by simp [Program.elem, Tryd.underlying27]
    have hu : Tryd.prog.underlying 27 = some (.slice (Tryd.prog.elem 27)) := by rw [hel]; exact Tryd.underlying27
    rw [run_slice_lh W 27 A xs.length c hu .i64 .i64 (k : Int) ((k : Int) + (n : Int)) (Int.natCast_nonneg _) (by omega) (by omega), hel]
    simp [sizeOf, typeInfo, hi, hsz, sliced, Result.andThen]
    omega
  · by_cases hck : c = k
    · have : n = 0 := by omega
      subst this
      rw [List.take_zero]; exact Rd.nil _ _
    · rw [if_neg hck]
      apply Rd.take
      intro j hj
      simp only [vbs_length, List.length_drop] at hj
      obtain ⟨b, o, rfl, hb, hcell⟩ := h.form (by omega)
      refine ⟨b, o + k, ?_, ?_⟩
      · have : (⟨b, o, none⟩ : Addr).add k = ⟨b, o + k, none⟩ := by unfold Addr.add; split <;> simp_all
        simp [this]
      · have := hcell (k + j) (by omega)
        rw [Nat.add_assoc, this]
        simp [vbs]
/-- A sector's bytes. -/
def sec (b : List Byte) (k : Nat) : List Byte := (b.drop (512 * k)).take 512
theorem sec_len {b : List Byte} {n k : Nat} (h : b.length = 512 * n) (hk : k < n) : (sec b k).length = 512 := by
  unfold sec; rw [List.length_take, List.length_drop, h]; omega
/-- The bytes' block, and what it holds. -/
theorem Dsk.bytes {w : World} {F : List Nat} {g n : Nat} {D : DiskSt} (h : Dsk w F g n D) : ∃ gb c, w.cell? ⟨g, 0, none⟩ = some (.slice (some ⟨gb, 0, none⟩) (512 * n) c) ∧ Own w 0 (.slice (some ⟨gb, 0, none⟩) (512 * n) c) D.b ∧ gb ∈ F := by
  obtain ⟨gb, c, gm, O, oc, L, V, h1, h2, h3, h4, h5, h6, h7, h8, h9, h10⟩ := h
  exact ⟨gb, c, (row4 h1).1, h2, h8 gb (by simp)⟩
set_option maxRecDepth 100000 in
set_option maxHeartbeats 1000000 in
theorem dsk_sector {w : World} {F : List Nat} {g n : Nat} {D : DiskSt} (h : Dsk w F g n D) (k : Nat) (hk : k < n) :
    Calls Tryd.prog 88 #[.pointer (some ⟨g, 0, none⟩), .int .i64 (k : Int)] w fun e w' => ∃ gb c, e = .returned (.slice (some ⟨gb, 512 * k, none⟩) 512 c) ∧ 512 ≤ c ∧ c ≤ maxLen ∧ Rd w (some ⟨gb, 512 * k, none⟩) (sec D.b k) ∧ w.cell? ⟨g, 0, none⟩ = some (.slice (some ⟨gb, 0, none⟩) (512 * n) (c + 512 * k)) ∧ w = w' := by
  obtain ⟨gb, c, q0, ho, -⟩ := h.bytes
  obtain ⟨i1, i2, i3, i4, -⟩ := Own.info ho
  have hok := h.ok
  have hn2 := hok.n2
  have hlen := hok.len
  obtain ⟨A', hcut, hcr, hA⟩ := cut_at (some ⟨gb, 0, none⟩) c D.b (512 * k) 512 (by omega) i1
  have hadd : (⟨gb, 0, none⟩ : Addr).add (512 * k) = ⟨gb, 512 * k, none⟩ := by
    unfold Addr.add; split
    · rename_i h; rw [h]
    · simp
  rw [hA (by omega)] at hcut hcr
  simp only [Option.map_some, hadd] at hcut hcr
  rw [hlen] at hcut
  have HCR := Lib.hid (hcr w i3)
  have HC := Lib.hid (show 512 ≤ c - 512 * k ∧ c - 512 * k ≤ maxLen ∧ (c - 512 * k) + 512 * k = c from ⟨by omega, by omega, by omega⟩)
  have hcut2 : ∀ W, (Instr.slice 27 (.slice (some ⟨gb, 0, none⟩) (512 * n) c) (some (.int .i64 ((k : Int) * 512))) (some (.int .i64 (((k : Int) + 1) * 512))) none).run Tryd.prog W = .ok (.slice (some ⟨gb, 512 * k, none⟩) 512 (c - 512 * k)) W := fun W => by
    have := hcut W
    rw [show ((512 * k : Nat) : Int) = (k : Int) * 512 by omega, show (k : Int) * 512 + ((512 : Nat) : Int) = ((k : Int) + 1) * 512 by omega] at this
    exact this
  have hw1 : IntKind.i64.wrap ((k : Int) * 512) = (k : Int) * 512 := by rw [IntKind.wrap_i64]; omega
  have hw2 : IntKind.i64.wrap ((k : Int) + 1) = (k : Int) + 1 := by rw [IntKind.wrap_i64]; omega
  have hw3 : IntKind.i64.wrap (((k : Int) + 1) * 512) = ((k : Int) + 1) * 512 := by rw [IntKind.wrap_i64]; omega
  have HQ := Lib.hid q0
  clear h ho i1 i2 i3 i4 hcut hcr hA hok
  go_enter Tryd.func88, Tryd.ntmps88
  go_wp2
  go_ret
  exact ⟨gb, c - 512 * k, rfl, HC.out.1, HC.out.2.1, HCR.out, by rw [HC.out.2.2]; exact HQ.out, rfl⟩
theorem zeroB (w : World) : (zeroValue 27).run Tryd.prog w = .ok (.slice none 0 0) w := by kernel_rfl
/-- A sector looked for in the cache. -/
theorem Dsk.look {w : World} {F : List Nat} {g n : Nat} {D : DiskSt} (h : Dsk w F g n D) (k : Int) : ∃ gm, w.cell? ⟨g, 1, none⟩ = some (.map (some gm)) ∧
    ((cget D.M k = none ∧ ∀ ok, (Instr.lookup 99 (.map (some gm)) (.int .i64 k) ok).run Tryd.prog w = .ok (if ok then .tuple #[.slice none 0 0, .bool false] else .slice none 0 0) w) ∨
     ∃ A c x, cget D.M k = some x ∧ (∀ ok, (Instr.lookup 99 (.map (some gm)) (.int .i64 k) ok).run Tryd.prog w = .ok (if ok then .tuple #[.slice A x.length c, .bool true] else .slice A x.length c) w) ∧ Rd w A x ∧ x.length ≤ c ∧ c ≤ maxLen ∧ ∀ ad, A = some ad → ad.block ∈ F) := by
  obtain ⟨gb, c, gm, O, oc, L, V, h1, h2, h3, h4, h5, h6, h7, h8, h9, h10⟩ := h
  refine ⟨gm, (row4 h1).2.1, ?_⟩
  have hl := fun ok => map_lookup Tryd.underlying99 Tryd.underlying3 h3 k ok (zeroB w)
  rcases h4.get k with ⟨e1, e2⟩ | ⟨A, c', x, e1, e2, hr, k1, k2, k3⟩
  · left
    refine ⟨e2, fun ok => ?_⟩
    rw [hl ok, e1]; rfl
  · right
    refine ⟨A, c', x, e2, fun ok => ?_, hr, k1, k2, fun ad ha => (k3 ad ha).1⟩
    rw [hl ok, e1]; rfl
/-- What Read returns, and leaves. -/
def sdRead (D : DiskSt) (n : Nat) (k : Int) : List Byte × Int × DiskSt :=
  if k < 0 ∨ (n : Int) ≤ k then ([], 2, D) else if (ffail D.fuse).1 then ([], 8, { D with fuse := (ffail D.fuse).2 })
  else ((cget D.M k).getD (sec D.b k.toNat), 0, { D with fuse := (ffail D.fuse).2 })
set_option maxRecDepth 100000 in
set_option maxHeartbeats 1000000 in
theorem dsk_Read {w : World} {F : List Nat} {g n : Nat} {D : DiskSt} (h : Dsk w F g n D) (k : Int) :
    Calls Tryd.prog 85 #[.pointer (some ⟨g, 0, none⟩), .int .i64 k] w fun e w' => ∃ A c, e = .returned (.tuple #[.slice A (sdRead D n k).1.length c, .int .i64 (sdRead D n k).2.1]) ∧ Rd w' A (sdRead D n k).1 ∧ (∀ ad, A = some ad → w.heap.size ≤ ad.block) ∧ Dsk w' F g n (sdRead D n k).2.2 ∧ TS F w w' ∧ (sdRead D n k).1.length ≤ c ∧ c ≤ maxLen := by
  have H := Lib.hid h
  unfold sdRead
  by_cases hneg : k < 0
  · rw [if_pos (.inl hneg)]
    clear h
    go_enter Tryd.func85, Tryd.ntmps85
    go_wp2_with fail
    refine (dsk_made H.out).mono ?_
    rintro e w1 ⟨rfl, rfl⟩
    go_wp2
    go_ret2
    exact ⟨none, 0, rfl, Rd.nil _ _, fun ad ha => (by cases ha), H.out, TS.refl _ _, by simp, by simp [maxLen]⟩
  · by_cases hbig : (n : Int) ≤ k
    · rw [if_pos (.inr hbig)]
      clear h
      go_enter Tryd.func85, Tryd.ntmps85
      go_wp2_with fail
      refine (dsk_made H.out).mono ?_
      rintro e w1 ⟨rfl, rfl⟩
      go_wp2_with fail
      refine (dsk_Sectors H.out).mono ?_
      rintro e w1 ⟨rfl, rfl⟩
      go_wp2
      go_ret2
      exact ⟨none, 0, rfl, Rd.nil _ _, fun ad ha => (by cases ha), H.out, TS.refl _ _, by simp, by simp [maxLen]⟩
    · rw [if_neg (by omega)]
      have HFA := Lib.hid (dsk_fails h)
      cases hff : (ffail D.fuse).1 with
      | true =>
        rw [if_pos rfl]
        rw [hff] at HFA
        clear h hff
        go_enter Tryd.func85, Tryd.ntmps85
        go_wp2_with fail
        refine (dsk_made H.out).mono ?_
        rintro e w1 ⟨rfl, rfl⟩
        go_wp2_with fail
        refine (dsk_Sectors H.out).mono ?_
        rintro e w1 ⟨rfl, rfl⟩
        go_wp2_with fail
        refine HFA.out.mono ?_
        rintro e w1 ⟨rfl, hd, ht⟩
        have HD1 := Lib.hid hd
        have HT1 := Lib.hid ht
        clear hd ht
        go_wp2
        go_ret2
        exact ⟨none, 0, rfl, Rd.nil _ _, fun ad ha => (by cases ha), HD1.out, HT1.out, by simp, by simp [maxLen]⟩
      | false =>
        rw [if_neg (by simp)]
        rw [hff] at HFA
        have hlen := h.ok
        obtain ⟨kn, rfl⟩ : ∃ kn : Nat, k = (kn : Int) := ⟨k.toNat, by omega⟩
        have hkn : kn < n := by omega
        have HSL := Lib.hid (sec_len hlen.len hkn)
        have HCM := Lib.hid (show ∀ x, cget D.M (kn : Int) = some x → x.length = 512 from fun x hx => by
          have hM := hlen.M
          clear hlen HFA hff
          revert hx hM
          generalize D.M = M
          induction M with
          | nil => intro hx _; cases hx
          | cons p M ih =>
            obtain ⟨pk, pv⟩ := p
            intro hx hM
            rw [cget] at hx
            by_cases h0 : pk = (kn : Int)
            · rw [if_pos h0] at hx; cases hx; exact (hM _ List.mem_cons_self).2.2
            · rw [if_neg h0] at hx; exact ih hx (fun p hp => hM p (List.mem_cons_of_mem _ hp)))
        simp only [Int.toNat_natCast]
        generalize (ffail D.fuse).2 = fz at *
        generalize hxx : (cget D.M (kn : Int)).getD (sec D.b kn) = xx
        clear h hff hlen
        go_enter Tryd.func85, Tryd.ntmps85
        go_wp2_with fail
        refine (dsk_made H.out).mono ?_
        rintro e w1 ⟨rfl, rfl⟩
        go_wp2_with fail
        refine (dsk_Sectors H.out).mono ?_
        rintro e w1 ⟨rfl, rfl⟩
        go_wp2_with fail
        refine HFA.out.mono ?_
        rintro e w1 ⟨rfl, hd, ht⟩
        have HD1 := Lib.hid hd
        have HT1 := Lib.hid ht
        obtain ⟨gm, q1, hlk⟩ := hd.look (kn : Int)
        clear hd ht
        rcases hlk with ⟨hc, hl⟩ | ⟨A, c, x, hc, hl, hr, k1, k2, k3⟩
        · have hl1 := hl true
          rw [if_pos rfl] at hl1
          have hxe : xx = sec D.b kn := by rw [← hxx, show cget D.M (kn : Int) = none from hc]; rfl
          have HX := Lib.hid hxe
          clear hc hl hxx hxe
          go_wp2_with fail
          refine (dsk_sector HD1.out kn hkn).mono ?_
          rintro e w2 ⟨gb, c, rfl, k1, k2, hr, -, rfl⟩
          have HR := Lib.hid hr
          clear hr
          go_wp2_with fail
          refine (sl_Clone (sec D.b kn) _ 512 c _ HSL.out.symm (by rw [HSL.out]; omega) HR.out).mono ?_
          rintro e w3 ⟨A3, c3, rfl, ho, hb⟩
          have HO3 := Lib.hid (Own.info ho)
          have HF3 := Lib.hid (show FB w1 w3 from hb)
          clear ho hb
          go_wp2
          go_ret2
          rw [HX.out]
          exact ⟨A3, c3, by rw [HSL.out]; rfl, HO3.out.2.2.1, fun ad ha => Nat.le_trans HT1.out.size ((HO3.out.2.2.2.2 ad ha).1), HD1.out.fb HF3.out, HT1.out.then (TS.of HF3.out), HO3.out.1, HO3.out.2.1⟩
        · have hl1 := hl true
          rw [if_pos rfl] at hl1
          have HXL := Lib.hid (HCM.out x hc)
          rw [HXL.out] at hl1 k1
          have hxe : xx = x := by rw [← hxx, show cget D.M (kn : Int) = some x from hc]; rfl
          have HX := Lib.hid hxe
          have HR := Lib.hid hr
          clear hc hl hr k3 hxx hxe
          go_wp2_with fail
          refine (sl_Clone x A 512 c _ HXL.out.symm (by rw [HXL.out]; omega) HR.out).mono ?_
          rintro e w3 ⟨A3, c3, rfl, ho, hb⟩
          have HO3 := Lib.hid (Own.info ho)
          have HF3 := Lib.hid (show FB w1 w3 from hb)
          clear ho hb
          go_wp2
          go_ret2
          rw [HX.out]
          exact ⟨A3, c3, by rw [HXL.out]; rfl, HO3.out.2.2.1, fun ad ha => Nat.le_trans HT1.out.size ((HO3.out.2.2.2.2 ad ha).1), HD1.out.fb HF3.out, HT1.out.then (TS.of HF3.out), HO3.out.1, HO3.out.2.1⟩
end Go.Proofs.YtoidlmhebnlnbaaDoor
/- A disk, with its parts named; the order made longer; the cache written. -/
set_option linter.unusedVariables false
set_option linter.unusedSimpArgs false
namespace Go.Proofs.YtoidlmhebnlnbaaDoor
open Go.ChangeShapes Go.WideShapes Go.ChangeAt Go.RowKit Go.MapKept

def dctl (g gb gm : Nat) (O : Option Addr) (L : Option Nat) : List Nat := [g, gb, gm] ++ (optBlk O ++ L.toList)
/-- A disk's parts: its order may stand apart from its cache (between two steps of Write). -/
structure DskC (w : World) (F : List Nat) (g n gb c gm : Nat) (O : Option Addr) (oc : Nat) (L : Option Nat) (V : List (Int × Value)) (D : DiskSt) (ord : List Int) : Prop where
  row : w.heap[g]? = some (.cells #[.slice (some ⟨gb, 0, none⟩) (512 * n) c, .map (some gm), .slice O ord.length oc, .pointer (L.map fun l => ⟨l, 0, none⟩)] 102 (0, 0))
  bytes : Own w 0 (.slice (some ⟨gb, 0, none⟩) (512 * n) c) D.b
  map : MapAt w gm V
  vals : Vals w F (dctl g gb gm O L) V D.M
  order : OwnV 3 w 0 (.slice O ord.length oc) (ord.map fun k => .int .i64 k)
  fuse : FuseAt w L D.fuse
  nodup : (dctl g gb gm O L).Nodup
  mem : ∀ x ∈ dctl g gb gm O L, x ∈ F
  lt : ∀ x ∈ F, x < w.heap.size
theorem Dsk.parts {w : World} {F : List Nat} {g n : Nat} {D : DiskSt} (h : Dsk w F g n D) : ∃ gb c gm O oc L V, DskC w F g n gb c gm O oc L V D (D.M.map (·.1)) := by
  obtain ⟨gb, c, gm, O, oc, L, V, h1, h2, h3, h4, h5, h6, h7, h8, h9, h10⟩ := h
  refine ⟨gb, c, gm, O, oc, L, V, ⟨by rw [List.length_map]; exact h1, h2, h3, h4, ?_, h6, h7, h8, h10⟩⟩
  rw [List.length_map, List.map_map]; exact h5
theorem DskC.whole {w : World} {F : List Nat} {g n gb c gm : Nat} {O : Option Addr} {oc : Nat} {L : Option Nat} {V : List (Int × Value)} {D : DiskSt} (h : DskC w F g n gb c gm O oc L V D (D.M.map (·.1))) (hk : D.ok n) : Dsk w F g n D := by
  have h1 := h.row
  have h5 := h.order
  rw [List.length_map] at h1 h5
  rw [List.map_map] at h5
  exact ⟨gb, c, gm, O, oc, L, V, h1, h.bytes, h.map, h.vals, h5, h.fuse, h.nodup, h.mem, hk, h.lt⟩
section
variable {w w' : World} {F : List Nat} {g n gb c gm : Nat} {O : Option Addr} {oc : Nat} {L : Option Nat} {V : List (Int × Value)} {D : DiskSt} {ord : List Int}
/-- Something else has turned. -/
theorem DskC.ts {F' : List Nat} (h : DskC w F g n gb c gm O oc L V D ord) (k : TS F' w w') (hd : ∀ x ∈ F', x ∉ F) : DskC w' F g n gb c gm O oc L V D ord := by
  have hn : ∀ x ∈ dctl g gb gm O L, x ∉ F' := fun x hx hf => hd x hf (h.mem x hx)
  refine ⟨?_, ?_, ?_, ?_, ?_, ?_, h.nodup, h.mem, fun x hx => Nat.lt_of_lt_of_le (h.lt x hx) k.size⟩
  · rw [k.block g (Array.getElem?_eq_some_iff.1 h.row).1 (hn g (by simp [dctl]))]; exact h.row
  · exact k.ownV h.bytes (fun b hb => by cases hb; exact hn gb (by simp [dctl]))
  · exact h.map.ts k (hn gm (by simp [dctl]))
  · exact h.vals.move (fun A x hr hb => k.rd hr (fun ad ha hf => hd _ hf (hb ad ha).1)) (fun b h h' => ⟨h, h'⟩)
  · exact k.ownV h.order (fun b hb => by
      cases O with
      | none => cases hb
      | some ad => cases hb; exact hn _ (by simp [dctl, optBlk]))
  · have h6 := h.fuse
    unfold FuseAt at *
    revert h6
    generalize D.fuse = fz
    intro h6
    cases L with
    | none => cases fz with
      | none => trivial
      | some z => exact h6
    | some l => cases fz with
      | none => exact h6
      | some z =>
        simp only at h6 ⊢
        rw [k.block l (Array.getElem?_eq_some_iff.1 h6).1 (hn l (by simp [dctl]))]; exact h6
theorem DskC.fb (h : DskC w F g n gb c gm O oc L V D ord) (k : FB w w') : DskC w' F g n gb c gm O oc L V D ord := h.ts (F' := []) (TS.of k) (by simp)
theorem DskC.kept (h : DskC w F g n gb c gm O oc L V D ord) (hg : w.grownBy w' ((Value.slice O ord.length oc).ownBlock)) : w'.heap[g]? = some (.cells #[.slice (some ⟨gb, 0, none⟩) (512 * n) c, .map (some gm), .slice O ord.length oc, .pointer (L.map fun l => ⟨l, 0, none⟩)] 102 (0, 0)) := by
  rw [hg.block g (Array.getElem?_eq_some_iff.1 h.row).1 (fun e => by
    have hnd := h.nodup
    cases O with
    | none => cases e
    | some ad =>
      simp only [Value.ownBlock, Option.some.injEq] at e
      simp [dctl, optBlk, e] at hnd)]
  exact h.row
/-- The order made longer by one, and laid into the disk. -/
theorem DskC.longer (h : DskC w F g n gb c gm O oc L V D ord) (k : Int) (O' : Option Addr) (oc' : Nat) (ho : OwnV 3 w' 0 (.slice O' (ord.length + 1) oc') ((ord ++ [k]).map fun k => .int .i64 k))
    (hg : w.grownBy w' ((Value.slice O ord.length oc).ownBlock)) (hl : (Value.slice O' (ord.length + 1) oc').ownBlock = (Value.slice O ord.length oc).ownBlock ∨ (Value.slice O' (ord.length + 1) oc').ownBlock = some w.heap.size) :
    ∃ F', (∀ x ∈ F', x ∈ F ∨ w.heap.size ≤ x) ∧ DskC (w'.setCell ⟨g, 2, none⟩ (.slice O' (ord.length + 1) oc')) F' g n gb c gm O' oc' L V D (ord ++ [k]) ∧ TS F w (w'.setCell ⟨g, 2, none⟩ (.slice O' (ord.length + 1) oc')) := by
  have hts0 : TS (optBlk O) w w' := ⟨hg.os, hg.tape, hg.output, hg.size, fun x hx hn => hg.block x hx (fun e => hn (by
    cases O with
    | none => cases e
    | some ad => cases e; simp [optBlk]))⟩
  have hO' : ∀ x ∈ optBlk O', x ∈ optBlk O ∨ x = w.heap.size := by
    intro x hx
    cases O' with
    | none => cases hx
    | some ad =>
      simp only [optBlk, Option.toList_some, List.map_cons, List.map_nil, List.mem_singleton] at hx
      subst hx
      rcases hl with hl | hl
      · cases O with
        | none => cases hl
        | some ad' => left; simp only [Value.ownBlock, Option.some.injEq] at hl; simp [optBlk, hl]
      · right; simpa [Value.ownBlock] using hl
  have hctl : ∀ x ∈ dctl g gb gm O L, x < w.heap.size := fun x hx => h.lt x (h.mem x hx)
  have hnd := h.nodup
  unfold dctl at hnd
  have hgO : g ∉ optBlk O := fun hm => by
    simp only [List.cons_append, List.nil_append, List.nodup_cons] at hnd
    exact hnd.1 (by simp [hm])
  have hrow' : w'.heap[g]? = _ := (hts0.block g (Array.getElem?_eq_some_iff.1 h.row).1 hgO).trans h.row
  have hset : TS [g] w' (w'.setCell ⟨g, 2, none⟩ (.slice O' (ord.length + 1) oc')) := TS.tb (TB.set w' 2 _) (by simp)
  have hts : TS (g :: optBlk O) w (w'.setCell ⟨g, 2, none⟩ (.slice O' (ord.length + 1) oc')) := (hts0.trans (F := optBlk O) (F' := optBlk O) (TS.refl _ _) (fun x hx => .inl hx)) |> fun q => ⟨hset.os.trans q.os, hset.tape.trans q.tape, hset.output.trans q.output, Nat.le_trans q.size hset.size, fun x hx hn => (hset.block x (Nat.lt_of_lt_of_le hx q.size) (fun e => hn (by simp at e; simp [e]))).trans (q.block x hx (fun e => hn (by simp [e])))⟩
  have hx1 : ∀ x ∈ [gb, gm] ++ L.toList, x ∉ g :: optBlk O := by
    intro x hx hm
    simp only [List.cons_append, List.nil_append, List.nodup_cons, List.mem_cons, List.mem_append, not_or] at hnd
    obtain ⟨⟨a1, a2, a3, a4⟩, ⟨b1, b2, b3⟩, ⟨c1, c2⟩, d⟩ := hnd
    rw [List.nodup_append] at d
    simp only [List.mem_cons] at hm
    simp only [List.cons_append, List.nil_append, List.mem_cons] at hx
    rcases hx with rfl | rfl | hx
    · rcases hm with rfl | hm
      · exact a1 rfl
      · exact b2 hm
    · rcases hm with rfl | hm
      · exact a2 rfl
      · exact c1 hm
    · rcases hm with rfl | hm
      · exact a4 hx
      · exact d.2.2 x hm x hx rfl
  refine ⟨optBlk O' ++ F, ?_, ⟨?_, ?_, ?_, ?_, ?_, ?_, ?_, ?_, ?_⟩, hts.trans (F' := []) (TS.refl _ _) (by simp) |> fun q => ⟨q.os, q.tape, q.output, q.size, fun x hx hn => q.block x hx (fun e => hn (by
    simp only [List.mem_cons] at e
    rcases e with rfl | e
    · exact h.mem _ (by simp [dctl])
    · exact h.mem _ (by simp [dctl, e])))⟩⟩
  · intro x hx
    simp only [List.mem_append] at hx
    rcases hx with hx | hx
    · rcases hO' x hx with hx | hx
      · exact .inl (h.mem x (by simp [dctl, hx]))
      · exact .inr (by omega)
    · exact .inl hx
  · rw [heap_setCell_same _ _ _ _ _ _ hrow']
    simp
  · exact hts.ownV h.bytes (fun b hb => by cases hb; exact hx1 gb (by simp))
  · exact h.map.ts hts (hx1 gm (by simp))
  · refine h.vals.move (fun A x hr hb => hts.rd hr (fun ad ha hf => (hb ad ha).2 ?_)) (fun b hb hb' => ⟨by simp [hb], fun hm => ?_⟩)
    · simp only [List.mem_cons] at hf
      rcases hf with hf | hf
      · simp [dctl, hf]
      · simp [dctl, hf]
    · simp only [dctl, List.mem_append] at hm hb'
      rcases hm with hm | hm | hm
      · exact hb' (.inl hm)
      · rcases hO' b hm with hm | hm
        · exact hb' (.inr (.inl hm))
        · have := h.lt b hb; omega
      · exact hb' (.inr (.inr hm))
  · rw [List.length_append]
    have hOg : ∀ b, (Value.slice O' (ord.length + 1) oc').ownBlock = some b → b ∉ [g] := by
      intro b hb hm
      simp only [List.mem_singleton] at hm
      subst hm
      have hbm : b ∈ optBlk O' := by
        cases O' with
        | none => cases hb
        | some ad => cases hb; simp [optBlk]
      rcases hO' b hbm with hm | hm
      · exact hgO hm
      · have := hctl b (by simp [dctl]); omega
    exact hset.ownV ho hOg
  · have h6 := h.fuse
    unfold FuseAt at *
    revert h6
    generalize D.fuse = fz
    intro h6
    cases L with
    | none => cases fz with
      | none => trivial
      | some z => exact h6
    | some l => cases fz with
      | none => exact h6
      | some z =>
        simp only at h6 ⊢
        rw [hts.block l (Array.getElem?_eq_some_iff.1 h6).1 (hx1 l (by simp))]; exact h6
  · have hO1 : (optBlk O').Nodup := by cases O' <;> simp [optBlk]
    simp only [dctl, List.cons_append, List.nil_append, List.nodup_cons, List.mem_cons, List.mem_append, not_or] at hnd ⊢
    obtain ⟨⟨a1, a2, a3, a4⟩, ⟨b1, b2, b3⟩, ⟨c1, c2⟩, d⟩ := hnd
    rw [List.nodup_append] at d ⊢
    have hno : ∀ x, x < w.heap.size → x ∉ optBlk O → x ∉ optBlk O' := fun x hx hn hm => by
      rcases hO' x hm with h | h
      · exact hn h
      · omega
    refine ⟨⟨a1, a2, hno g (hctl g (by simp [dctl])) a3, a4⟩, ⟨b1, hno gb (hctl gb (by simp [dctl])) b2, b3⟩, ⟨hno gm (hctl gm (by simp [dctl])) c1, c2⟩, hO1, d.2.1, fun a ha b hb => ?_⟩
    rintro rfl
    exact hno a (hctl a (by simp [dctl, hb])) (fun hm => d.2.2 a hm a hb rfl) ha
  · intro x hx
    simp only [dctl, List.mem_append] at hx ⊢
    rcases hx with hx | hx | hx
    · exact .inr (h.mem x (by simp [dctl] at hx ⊢; rcases hx with hx | hx | hx <;> simp [hx]))
    · exact .inl hx
    · exact .inr (h.mem x (by simp [dctl, hx]))
  · intro x hx
    simp only [List.mem_append] at hx
    have hsz : w.heap.size ≤ (w'.setCell ⟨g, 2, none⟩ (.slice O' (ord.length + 1) oc')).heap.size := hts.size
    rcases hx with hx | hx
    · cases O' with
      | none => cases hx
      | some ad =>
        simp only [optBlk, Option.toList_some, List.map_cons, List.map_nil, List.mem_singleton] at hx
        subst hx
        have := (OwnV.base ho ad.block rfl).2
        simpa using this
    · have := h.lt x hx; omega
/-- A sector's bytes laid into the cache. -/
theorem DskC.stored (h : DskC w F g n gb c gm O oc L V D ord) (k : Int) {A : Option Addr} {ca : Nat} {x : List Byte} (hr : Rd w A x) (h1 : x.length ≤ ca) (h2 : ca ≤ maxLen) (hA : ∀ ad, A = some ad → ad.block < w.heap.size ∧ ad.block ∉ F)
    (hup : MapAt w' gm (mput V k (.slice A x.length ca))) (htb : TB gm w w') :
    ∃ F', (∀ y ∈ F', y ∈ F ∨ y ∈ optBlk A) ∧ DskC w' F' g n gb c gm O oc L (mput V k (.slice A x.length ca)) { D with M := cput D.M k x } ord ∧ TS F w w' := by
  have hts : TS [gm] w w' := TS.tb htb (by simp)
  have hnd := h.nodup
  unfold dctl at hnd
  have hne : ∀ y ∈ [g, gb] ++ (optBlk O ++ L.toList), y ∉ [gm] := by
    intro y hy hm
    simp only [List.mem_singleton] at hm
    subst hm
    simp only [List.cons_append, List.nil_append, List.nodup_cons, List.mem_cons, List.mem_append, not_or] at hnd hy
    obtain ⟨⟨a1, a2, a3, a4⟩, ⟨b1, b2, b3⟩, ⟨c1, c2⟩, d⟩ := hnd
    rcases hy with rfl | rfl | hy | hy
    · exact a2 rfl
    · exact b1 rfl
    · exact c1 hy
    · exact c2 hy
  have hAF : ∀ ad, A = some ad → ad.block ∉ dctl g gb gm O L := fun ad ha hm => (hA ad ha).2 (h.mem _ hm)
  refine ⟨optBlk A ++ F, fun y hy => by simp only [List.mem_append] at hy; exact hy.symm, ⟨?_, ?_, hup, ?_, ?_, ?_, h.nodup, fun y hy => by simp [h.mem y hy], ?_⟩, TS.tb htb (h.mem gm (by simp [dctl]))⟩
  · rw [hts.block g (Array.getElem?_eq_some_iff.1 h.row).1 (hne g (by simp))]; exact h.row
  · exact hts.ownV h.bytes (fun b hb => by cases hb; exact hne gb (by simp))
  · refine Vals.put ?_ k (hts.rd hr (fun ad ha hm => hAF ad ha (by simp at hm; simp [dctl, hm]))) h1 h2 (fun ad ha => ⟨by simp [optBlk, ha], hAF ad ha⟩)
    exact h.vals.move (fun A x hr hb => hts.rd hr (fun ad ha hf => (hb ad ha).2 (by simp at hf; simp [dctl, hf]))) (fun b hb hb' => ⟨by simp [hb], hb'⟩)
  · exact hts.ownV h.order (fun b hb => by
      cases O with
      | none => cases hb
      | some ad => cases hb; exact hne _ (by simp [optBlk]))
  · have h6 := h.fuse
    unfold FuseAt at *
    simp only
    revert h6
    generalize D.fuse = fz
    intro h6
    cases L with
    | none => cases fz with
      | none => trivial
      | some z => exact h6
    | some l => cases fz with
      | none => exact h6
      | some z =>
        simp only at h6 ⊢
        rw [hts.block l (Array.getElem?_eq_some_iff.1 h6).1 (hne l (by simp))]; exact h6
  · intro y hy
    simp only [List.mem_append] at hy
    rcases hy with hy | hy
    · cases A with
      | none => cases hy
      | some ad =>
        simp only [optBlk, Option.toList_some, List.map_cons, List.map_nil, List.mem_singleton] at hy
        subst hy
        exact Nat.lt_of_lt_of_le (hA ad rfl).1 hts.size
    · exact Nat.lt_of_lt_of_le (h.lt y hy) hts.size
end
theorem cput_none {M : List (Int × List Byte)} {k : Int} (h : cget M k = none) (x : List Byte) : (cput M k x).map (·.1) = M.map (·.1) ++ [k] := by
  induction M with
  | nil => rfl
  | cons p M ih =>
    obtain ⟨pk, pv⟩ := p
    rw [cget] at h
    rw [cput]
    by_cases h0 : pk = k
    · rw [if_pos h0] at h; cases h
    · rw [if_neg h0] at h ⊢; simp [ih h]
theorem cput_some {M : List (Int × List Byte)} {k : Int} {y : List Byte} (h : cget M k = some y) (x : List Byte) : (cput M k x).map (·.1) = M.map (·.1) := by
  induction M with
  | nil => cases h
  | cons p M ih =>
    obtain ⟨pk, pv⟩ := p
    rw [cget] at h
    rw [cput]
    by_cases h0 : pk = k
    · rw [if_pos h0]; simp [h0]
    · rw [if_neg h0] at h ⊢; simp [ih h]
theorem cput_mem {M : List (Int × List Byte)} {k : Int} {x : List Byte} : ∀ p ∈ cput M k x, p = (k, x) ∨ p ∈ M := by
  induction M with
  | nil => intro p hp; simp [cput] at hp; exact .inl hp
  | cons q M ih =>
    obtain ⟨pk, pv⟩ := q
    intro p hp
    rw [cput] at hp
    by_cases h0 : pk = k
    · rw [if_pos h0] at hp
      simp only [List.mem_cons] at hp
      rcases hp with rfl | hp
      · exact .inl rfl
      · exact .inr (List.mem_cons_of_mem _ hp)
    · rw [if_neg h0] at hp
      simp only [List.mem_cons] at hp
      rcases hp with rfl | hp
      · exact .inr List.mem_cons_self
      · rcases ih p hp with h | h
        · exact .inl h
        · exact .inr (List.mem_cons_of_mem _ h)
theorem DiskSt.ok.put {D : DiskSt} {n : Nat} (h : D.ok n) {k : Int} {x : List Byte} (h0 : 0 ≤ k) (h1 : k < n) (h2 : x.length = 512) : DiskSt.ok { D with M := cput D.M k x } n :=
  ⟨h.len, h.n1, h.n2, fun p hp => by
    rcases cput_mem p hp with rfl | hp
    · exact ⟨h0, h1, h2⟩
    · exact h.M p hp, h.f⟩
end Go.Proofs.YtoidlmhebnlnbaaDoor
/- A region whose order is open, walked in one order of the prover's choice: what only reads is taken as soon as it may come up, what makes memory or calls comes up alone. No program in sight.
   E w w': what one step of the region may do to the world (a preorder: 'nothing that was there has turned'). -/
set_option linter.unusedVariables false
set_option linter.unusedSimpArgs false
namespace Go.Proofs.YtoidlmhebnlnbaaDoor

section
variable {P : Program} {ops : Array Oper} {Q : Exit → Act → World → Prop} {md : Region.Mode} {E : World → World → Prop}

/-- Whatever order is picked, and each step does to the world what E allows. -/
def anyE (P : Program) (md : Region.Mode) (ops : Array Oper) (Q : Exit → Act → World → Prop) (E : World → World → Prop) : Nat → Array Bool → Act → World → Prop
  | 0, listed, a, w => Region.ready md ops listed = [] ∧ Q .normal a w
  | fuel + 1, listed, a, w =>
    (Region.ready md ops listed = [] → Q .normal a w) ∧
    ∀ i ∈ Region.ready md ops listed, wpOp P ops Q i (fun a' w' => E w w' ∧ anyE P md ops Q E fuel (listed.setIfInBounds i true) a' w') a w
theorem wpAny_of_anyE : ∀ (fuel : Nat) (listed : Array Bool) (a : Act) (w : World), anyE P md ops Q E fuel listed a w → wpAny P md ops Q fuel listed a w
  | 0, _, _, _, h => h
  | fuel + 1, _, _, _, h => ⟨h.1, fun i hi => wpOp_mono (fun a' w' h' => wpAny_of_anyE fuel _ a' w' h'.2) (h.2 i hi)⟩

theorem yieldsE_mono {S S' : World → Prop} {o : Oper} {v : Value} {a : Act} (h : YieldsIf P ops S o v a) (hs : ∀ w, S' w → S w) : YieldsIf P ops S' o v a :=
  h.imp (fun ⟨h1, h2⟩ => ⟨h1, fun w hw => h2 w (hs w hw)⟩) id

/-- An operation that yields its value in every world that may come from the one at hand may be taken first. -/
theorem anyE_first {i : Nat} {oi : Oper} {v : Value} (hrf : ∀ w, E w w) (htr : ∀ x y z, E x y → E y z → E x z) (hi : ops[i]? = some oi) (hsel : ∀ (j : Nat) (o : Oper) cs b, ops[j]? = some o → o.op ≠ .select cs b)
    (hQ : ∀ c a w, Q (.panic c) (a.put oi.dst v) w → Q (.panic c) a w) :
    ∀ (fuel : Nat) (listed : Array Bool) (a : Act) (w : World),
      (∀ j oj, ops[j]? = some oj → j ≠ i → listed.getD j true = false → (∀ e ∈ oj.after, Region.binds md e = true → e.on ≠ i) → oi.apart ops oj = true) →
      i ∈ Region.ready md ops listed → YieldsIf P ops (E w) oi v a →
      anyE P md ops Q E fuel (listed.setIfInBounds i true) (a.put oi.dst v) w → anyE P md ops Q E (fuel + 1) listed a w := by
  intro fuel
  induction fuel with
  | zero =>
    intro listed a w _ hr hy H
    refine ⟨fun h => (by rw [h] at hr; cases hr), fun j hj => ?_⟩
    by_cases hji : j = i
    · subst hji; exact hy.wpOp hi (hrf w) ⟨hrf w, H⟩
    · have := ready_mono hj hji
      rw [H.1] at this
      cases this
  | succ fuel ih =>
    intro listed a w hfree hr hy H
    refine ⟨fun h => (by rw [h] at hr; cases hr), fun j hj => ?_⟩
    by_cases hji : j = i
    · subst hji; exact hy.wpOp hi (hrf w) ⟨hrf w, H⟩
    · have h1 := H.2 j (ready_mono hj hji)
      obtain ⟨hjun, oj, hoj, hall⟩ := mem_ready.1 hj
      have hnot : ∀ e ∈ oj.after, Region.binds md e = true → e.on ≠ i := fun e he hb heq => by
        have h1 := hall e he hb
        have h0 := (mem_ready.1 hr).1
        rw [heq] at h1
        rcases Nat.lt_or_ge i listed.size with h' | h'
        · simp [h'] at h0 h1; rw [h0] at h1; cases h1
        · simp [Array.getElem?_eq_none h'] at h1
      have h2 := wpOp_putIf hoj (hfree j oj hoj hji hjun hnot) (fun cs b => hsel i oi cs b hi) (fun cs b => hsel j oj cs b hoj) hQ hy h1
      have hfree' : ∀ k ok, ops[k]? = some ok → k ≠ i → (listed.setIfInBounds j true).getD k true = false →
          (∀ e ∈ ok.after, Region.binds md e = true → e.on ≠ i) → oi.apart ops ok = true := fun k ok hk hki hun hno => by
        refine hfree k ok hk hki ?_ hno
        by_cases hjk : j = k
        · subst hjk; exact hjun
        · rw [getD_set_ne true hjk] at hun; exact hun
      refine wpOp_mono (fun a' w' h3 => ⟨h3.2.1, ih (listed.setIfInBounds j true) a' w' hfree' (ready_mono hr (Ne.symm hji)) (yieldsE_mono h3.1 fun W hW => htr _ _ _ h3.2.1 hW) ?_⟩) h2
      rw [Array.setIfInBounds_comm _ _ hji]
      exact h3.2.2

/-- Is this list an order in which the region may be walked? (number, taken first) -/
def okS (md : Region.Mode) (ops : Array Oper) : List (Nat × Bool) → Array Bool → Bool
  | [], listed => Region.ready md ops listed == []
  | (i, b) :: σ, listed => (if b then (Region.ready md ops listed).contains i && Region.free md ops listed i else Region.ready md ops listed == [i]) && okS md ops σ (listed.setIfInBounds i true)

def wpSch (P : Program) (ops : Array Oper) (Q : Exit → Act → World → Prop) (E : World → World → Prop) : List (Nat × Bool) → Act → World → Prop
  | [], a, w => Q .normal a w
  | (i, b) :: σ, a, w => if b then ∃ o v, ops[i]? = some o ∧ YieldsIf P ops (E w) o v a ∧ wpSch P ops Q E σ (a.put o.dst v) w
    else wpOp P ops Q i (fun a' w' => E w w' ∧ wpSch P ops Q E σ a' w') a w

theorem anyE_of_sch (hrf : ∀ w, E w w) (htr : ∀ x y z, E x y → E y z → E x z) (hs : Region.noSelect ops = true) (hQ : ∀ c a d v w, Q (.panic c) (Act.put a d v) w → Q (.panic c) a w) :
    ∀ (σ : List (Nat × Bool)) (listed : Array Bool) (a : Act) (w : World), okS md ops σ listed = true → wpSch P ops Q E σ a w → anyE P md ops Q E σ.length listed a w := by
  intro σ
  induction σ with
  | nil => intro listed a w hok h; exact ⟨by simpa [okS] using hok, h⟩
  | cons x σ ih =>
    obtain ⟨i, b⟩ := x
    intro listed a w hok h
    simp only [okS, Bool.and_eq_true] at hok
    obtain ⟨hok1, hok2⟩ := hok
    cases b with
    | true =>
      simp only [if_true, Bool.and_eq_true] at hok1
      simp only [wpSch, if_true] at h
      obtain ⟨o, v, hi, hy, h⟩ := h
      exact anyE_first hrf htr hi (Region.noSelect_spec hs) (fun c a w => hQ c a _ _ w) σ.length listed a w (Region.free_spec hi hok1.2) (by simpa using hok1.1) hy (ih _ _ _ hok2 h)
    | false =>
      have hr : Region.ready md ops listed = [i] := by simpa using hok1
      simp only [wpSch, Bool.false_eq_true, if_false] at h
      refine ⟨fun h0 => (by rw [h0] at hr; cases hr), fun j hj => ?_⟩
      rw [hr, List.mem_singleton] at hj
      subst hj
      exact wpOp_mono (fun a' w' h' => ⟨h'.1, ih _ _ _ hok2 h'.2⟩) h

/-- THE BEGINNING: the region, by the order σ. -/
theorem region_sch {id : Nat} {a : Act} {w : World} (σ : List (Nat × Bool)) (hm : P.follows .mixedOrders = true) (hrf : ∀ w, E w w) (htr : ∀ x y z, E x y → E y z → E x z)
    (hQ : ∀ c a d v w, Q (.panic c) (Act.put a d v) w → Q (.panic c) a w) (hok : (Region.noSelect ops && σ.length == ops.size && okS .any ops σ (Array.replicate ops.size false)) = true)
    (h : ∀ ops', ops' = ops → wpSch P ops' Q E σ a w.drew) : (Code.region id ops true).wp P Q a w := by
  replace h := h ops rfl
  simp only [Bool.and_eq_true, beq_iff_eq] at hok
  obtain ⟨⟨h1, h2⟩, h3⟩ := hok
  refine wp_region_any hm (wpAny_of_anyE (E := E) _ _ _ _ ?_)
  rw [← h2] at h3 ⊢
  exact anyE_of_sch hrf htr h1 hQ σ _ _ _ h3 h

/-! ### the steps (the region's operations stand behind a name, so that nothing reads them anew at each step: 'ops' = ..') -/
theorem at_of {ops ops' : Array Oper} (h : ops' = ops) {i : Nat} {o : Oper} (hi : ops[i]? = some o) : ops'[i]? = some o := h ▸ hi
theorem sch_take {i : Nat} {σ : List (Nat × Bool)} {o : Oper} {v : Value} {a a' : Act} {w : World} (hi : ops[i]? = some o) (hw : Region.wanted o (yielded ops a.tmps) = true)
    (hy : ∀ W, E w W → (execOp a.eval o).run P W = .ok (.value v) W) (ha : a.put o.dst v = a') (h : wpSch P ops Q E σ a' w) : wpSch P ops Q E ((i, true) :: σ) a w := by
  simp only [wpSch, if_true]
  exact ⟨o, v, hi, .inl ⟨hw, hy⟩, ha ▸ h⟩
theorem sch_skip {i : Nat} {b : Bool} {σ : List (Nat × Bool)} {o : Oper} {a a' : Act} {w : World} (hrf : ∀ w, E w w) (hi : ops[i]? = some o) (hw : Region.wanted o (yielded ops a.tmps) = false)
    (ha : a.put o.dst undef = a') (h : wpSch P ops Q E σ a' w) : wpSch P ops Q E ((i, b) :: σ) a w := by
  subst ha
  cases b with
  | true => simp only [wpSch, if_true]; exact ⟨o, undef, hi, .inr ⟨hw, rfl⟩, h⟩
  | false =>
    simp only [wpSch, Bool.false_eq_true, if_false]
    unfold wpOp
    simp only [hi, hw, Bool.false_eq_true, if_false]
    exact ⟨hrf w, h⟩
theorem sch_eff {i : Nat} {σ : List (Nat × Bool)} {o : Oper} {a : Act} {w : World} (hi : ops[i]? = some o) (hw : Region.wanted o (yielded ops a.tmps) = true)
    (h : ∀ K : Act → World → Prop, (∀ a' w', E w w' → wpSch P ops Q E σ a' w' → K a' w') → o.wp P a w K Q) : wpSch P ops Q E ((i, false) :: σ) a w := by
  simp only [wpSch, Bool.false_eq_true, if_false]
  unfold wpOp
  simp only [hi, hw, if_true]
  exact .inl (h _ fun a' w' h1 h2 => ⟨h1, h2⟩)
/-- A step that makes memory, by its run equation. -/
theorem sch_run {i : Nat} {σ : List (Nat × Bool)} {o : Oper} {v : Value} {a a' : Act} {w w' : World} (hi : ops[i]? = some o) (hw : Region.wanted o (yielded ops a.tmps) = true)
    (hr : (execOp a.eval o).run P w = .ok (.value v) w') (hE : E w w') (ha : a.put o.dst v = a') (h : wpSch P ops Q E σ a' w') : wpSch P ops Q E ((i, false) :: σ) a w :=
  sch_eff hi hw fun K hK => by
    unfold Oper.wp
    rw [hr]
    exact hK _ _ hE (ha ▸ h)
/-- A call of a Go function. -/
theorem sch_call {i : Nat} {σ : List (Nat × Bool)} {o : Oper} {a : Act} {w : World} {f : FuncId} {args : Array Value} (hi : ops[i]? = some o) (hw : Region.wanted o (yielded ops a.tmps) = true)
    (hr : (execOp a.eval o).run P w = .ok (.enter f args) w) (hc : Calls P f args w fun e w' => ∃ v, e = .returned v ∧ E w w' ∧ ∀ a', a.put o.dst v = a' → wpSch P ops Q E σ a' w') : wpSch P ops Q E ((i, false) :: σ) a w :=
  sch_eff hi hw fun K hK => by
    unfold Oper.wp
    rw [hr]
    refine Calls.mono hc fun e w' ⟨v, he, hE, h⟩ => ?_
    subst he
    exact hK _ _ hE (h _ rfl)
/-- A whole array out of its block. -/
theorem sch_loadA {i : Nat} {σ : List (Nat × Bool)} {o : Oper} {a a' : Act} {w : World} (hi : ops[i]? = some o) (hw : Region.wanted o (yielded ops a.tmps) = true) (ty : TypeId) (x : Operand) (ho : o.op = .load ty x)
    (g : Nat) (hx : a.eval x = .pointer (some ⟨g, 0, none⟩)) (t : TypeId) (cs : Array Value) (fr : Nat × Nat) (d : TypeDesc) (hg : ∀ W, E w W → W.heap[g]? = some (.cells cs t fr))
    (hu : P.underlying ty = some d) (hd : (match d with | .struct _ | .array _ _ => true | _ => false) = true) (hs : (P.info? ty).map (·.size) = some cs.size)
    (ha : a.put o.dst (.agg cs) = a') (h : wpSch P ops Q E σ a' w) : wpSch P ops Q E ((i, true) :: σ) a w :=
  sch_take hi hw (fun W hW => by
    unfold execOp
    simp only [ho, hx, Instr.loadAt, Instr.sureAddr, Sem.run_bind, Sem.run_pure, Result.andThen_ok, run_loadVar_row W g t ty cs fr d (hg W hW) hu hd hs]) ha h
/-- 'append(v, x...)' onto a row of the call's own. -/
theorem sch_append {i : Nat} {σ : List (Nat × Bool)} {o : Oper} {a : Act} {w : World} (hi : ops[i]? = some o) (hw : Region.wanted o (yielded ops a.tmps) = true) (s x : Operand) (t e : TypeId) (bytes : Nat) (z : Value)
    (ht : P.underlying t = some (.slice e)) (hinfo : (P.info? e).map (fun i => (i.zero, i.size, i.bytes)) = some (some z, 1, bytes)) (hzs : z.cells.size = 1)
    (ho : o.op = .call { callee := .builtin .append, args := #[s, x], argTypes := #[t, t] })
    (base : Nat) (v : Value) (xs : List Value) (hown : OwnV e w base v xs) (hs : a.eval s = v) (A : Option Addr) (n c : Nat) (ys : List Value) (hn : n = ys.length) (hx : a.eval x = .slice A n c) (hr : RdV w A ys) (h1 : ∀ u ∈ ys, u.oneCell' = true)
    (h63 : xs.length + ys.length ≤ maxLen) (hbytes : (xs.length + ys.length) * bytes ≤ 140737488355328) (hbase : base ≤ w.heap.size)
    (h : ∀ v' w', OwnV e w' base v' (xs ++ ys) → w.grownBy w' v.ownBlock → (v'.ownBlock = v.ownBlock ∨ v'.ownBlock = some w.heap.size) → E w w' ∧ ∀ a', a.put o.dst v' = a' → wpSch P ops Q E σ a' w') : wpSch P ops Q E ((i, false) :: σ) a w := by
  subst hn
  obtain ⟨v', w', hrun, h2, h3, h4⟩ := run_append_any (P := P) w base t o.type e bytes z ht hinfo hzs v xs hown A c ys hr h1 h63 hbytes hbase
  obtain ⟨hE, hk⟩ := h v' w' h2 h3 h4
  refine sch_run hi hw ?_ hE rfl (hk _ rfl)
  unfold execOp
  simp only [ho, resolve, invoke, builtin, Sem.run_bind, Sem.run_pure, Result.andThen_ok, List.map_toArray, List.map_cons, List.map_nil, hs, hx, hrun]
theorem sch_done {a : Act} {w : World} (h : Q .normal a w) : wpSch P ops Q E [] a w := h
end
theorem sch_append_bytes {ops : Array Oper} {Q : Exit → Act → World → Prop} {E : World → World → Prop} {i : Nat} {σ : List (Nat × Bool)} {o : Oper} {a : Act} {w : World} (hi : ops[i]? = some o) (hw : Region.wanted o (yielded ops a.tmps) = true) (s x : Operand)
    (ho : o.op = .call { callee := .builtin .append, args := #[s, x], argTypes := #[27, 27] })
    (base : Nat) (v : Value) (xs : List Byte) (hown : Own w base v xs) (hs : a.eval s = v) (A : Option Addr) (n c : Nat) (ys : List Byte) (hn : n = ys.length) (hx : a.eval x = .slice A n c) (hr : Rd w A ys)
    (hlen : xs.length + ys.length ≤ 140737488355328) (hbase : base ≤ w.heap.size)
    (h : ∀ v' w', Own w' base v' (xs ++ ys) → w.grownBy w' v.ownBlock → (v'.ownBlock = v.ownBlock ∨ v'.ownBlock = some w.heap.size) → E w w' ∧ ∀ a', a.put o.dst v' = a' → wpSch Tryd.prog ops Q E σ a' w') : wpSch Tryd.prog ops Q E ((i, false) :: σ) a w :=
  sch_append hi hw s x 27 5 1 (.int .u8 0) Tryd.underlying27 info_u8 rfl ho base v (vbs xs) hown hs A n c (vbs ys) (by rw [vbs_length]; exact hn) hx hr (vbs_oneCell ys)
    (by rw [vbs_length, vbs_length, maxLen_eq]; omega) (by rw [vbs_length, vbs_length]; omega) hbase (fun v' w' h2 h3 h4 => h v' w' (by unfold Own; rw [vbs_append]; exact h2) h3 h4)

theorem fb_trans (x y z : World) (h : FB x y) (k : FB y z) : FB x z := h.call k

end Go.Proofs.YtoidlmhebnlnbaaDoor
