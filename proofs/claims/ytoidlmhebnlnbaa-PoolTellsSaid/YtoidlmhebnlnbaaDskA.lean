/- A disk: the walks through made, Sectors, fails, Fail. -/
import Derived.Test.YtoidlmhebnlnbaaDsk
import Derived.WalkSpells
set_option linter.unusedVariables false
set_option linter.unusedSimpArgs false
namespace Go.Proofs.Ytoidlmhebnlnbaa
open Go.ChangeShapes Go.WideShapes Go.ChangeAt Go.RowKit Go.MapKept

/-- Something else has turned. -/
theorem Dsk.ts {w w' : World} {F F' : List Nat} {g n : Nat} {D : DiskSt} (h : Dsk w F g n D) (k : TS F' w w') (hd : ∀ x ∈ F', x ∉ F) : Dsk w' F g n D := by
  obtain ⟨gb, c, gm, O, oc, L, V, h1, h2, h3, h4, h5, h6, h7, h8, h9, h10⟩ := h
  have hn : ∀ x ∈ [g, gb, gm] ++ (optBlk O ++ L.toList), x ∉ F' := fun x hx hf => hd x hf (h8 x hx)
  refine ⟨gb, c, gm, O, oc, L, V, ?_, ?_, ?_, ?_, ?_, ?_, h7, h8, h9, fun x hx => Nat.lt_of_lt_of_le (h10 x hx) k.size⟩
  · rw [k.block g (Array.getElem?_eq_some_iff.1 h1).1 (hn g (by simp))]; exact h1
  · exact k.ownV h2 (fun b hb => by cases hb; exact hn gb (by simp))
  · exact h3.ts k (hn gm (by simp))
  · exact h4.move (fun A x hr hb => k.rd hr (fun ad ha hf => hd _ hf (hb ad ha).1)) (fun b h h' => ⟨h, h'⟩)
  · exact k.ownV h5 (fun b hb => by
      cases O with
      | none => cases hb
      | some ad => cases hb; exact hn _ (by simp [optBlk]))
  · unfold FuseAt at *
    revert h6
    generalize D.fuse = fz
    intro h6
    cases L with
    | none => cases fz with
      | none => trivial
      | some z => exact h6
    | some l => cases fz with
      | none => exact h6
      | some z =>
        simp only at h6 ⊢
        rw [k.block l (Array.getElem?_eq_some_iff.1 h6).1 (hn l (by simp))]; exact h6
theorem Dsk.fb {w w' : World} {F : List Nat} {g n : Nat} {D : DiskSt} (h : Dsk w F g n D) (k : FB w w') : Dsk w' F g n D := h.ts (F' := []) (TS.of k) (by simp)
theorem Dsk.lt {w : World} {F : List Nat} {g n : Nat} {D : DiskSt} (h : Dsk w F g n D) : ∀ x ∈ F, x < w.heap.size := by
  obtain ⟨gb, c, gm, O, oc, L, V, h1, h2, h3, h4, h5, h6, h7, h8, h9, h10⟩ := h
  exact h10
theorem Dsk.mem {w : World} {F : List Nat} {g n : Nat} {D : DiskSt} (h : Dsk w F g n D) : g ∈ F := by
  obtain ⟨gb, c, gm, O, oc, L, V, h1, h2, h3, h4, h5, h6, h7, h8, h9, h10⟩ := h
  exact h8 g (by simp)
theorem Dsk.ok {w : World} {F : List Nat} {g n : Nat} {D : DiskSt} (h : Dsk w F g n D) : D.ok n := by
  obtain ⟨gb, c, gm, O, oc, L, V, h1, h2, h3, h4, h5, h6, h7, h8, h9, h10⟩ := h
  exact h9
/-- The fuse: none; or a block of its own, which may be written. -/
theorem Dsk.fuse_cases {w : World} {F : List Nat} {g n : Nat} {D : DiskSt} (h : Dsk w F g n D) :
    (D.fuse = none ∧ w.cell? ⟨g, 3, none⟩ = some (.pointer none)) ∨
    ∃ l z, D.fuse = some z ∧ 0 ≤ z ∧ z ≤ 9223372036854775807 ∧ w.cell? ⟨g, 3, none⟩ = some (.pointer (some ⟨l, 0, none⟩)) ∧ w.cell? ⟨l, 0, none⟩ = some (.int .i64 z) ∧ w.frozen? ⟨l, 0, none⟩ = false ∧
      ∀ z', 0 ≤ z' ∧ z' ≤ 9223372036854775807 → Dsk (w.setCell ⟨l, 0, none⟩ (.int .i64 z')) F g n { D with fuse := some z' } ∧ TS F w (w.setCell ⟨l, 0, none⟩ (.int .i64 z')) := by
  obtain ⟨gb, c, gm, O, oc, L, V, h1, h2, h3, h4, h5, h6, h7, h8, h9, h10⟩ := h
  obtain ⟨q0, q1, q2, q3⟩ := row4 h1
  unfold FuseAt at h6
  cases L with
  | none =>
    left
    refine ⟨?_, q3⟩
    cases hf : D.fuse with
    | none => rfl
    | some z => rw [hf] at h6; exact absurd h6 (by simp)
  | some l =>
    right
    cases hf : D.fuse with
    | none => rw [hf] at h6; exact absurd h6 (by simp)
    | some z =>
      rw [hf] at h6
      simp only at h6
      have hz := h9.f z hf
      refine ⟨l, z, rfl, hz.1, hz.2, q3, by rw [cell_of_row _ _ _ _ _ _ h6]; rfl, frozen_row _ h6 0, fun z' hz' => ?_⟩
      have htb : TB l w (w.setCell ⟨l, 0, none⟩ (.int .i64 z')) := TB.set w 0 _
      have hts : TS [l] w (w.setCell ⟨l, 0, none⟩ (.int .i64 z')) := TS.tb htb (by simp)
      have hne : ∀ x ∈ [g, gb, gm] ++ optBlk O, x ∉ [l] := by
        intro x hx hl
        simp only [List.mem_singleton] at hl
        subst hl
        rw [← List.append_assoc, List.nodup_append] at h7
        exact h7.2.2 x hx x (by simp) rfl
      refine ⟨⟨gb, c, gm, O, oc, some l, V, ?_, ?_, ?_, ?_, ?_, ?_, h7, h8, ?_, fun x hx => by simpa using h10 x hx⟩, TS.tb htb (h8 l (by simp))⟩
      · rw [hts.block g (Array.getElem?_eq_some_iff.1 h1).1 (hne g (by simp))]; exact h1
      · exact hts.ownV h2 (fun b hb => by cases hb; exact hne gb (by simp))
      · exact h3.ts hts (hne gm (by simp))
      · exact h4.move (fun A x hr hb => hts.rd hr (fun ad ha hf => (hb ad ha).2 (by simp at hf; rw [hf]; simp))) (fun b h h' => ⟨h, h'⟩)
      · exact hts.ownV h5 (fun b hb => by
          cases O with
          | none => cases hb
          | some ad => cases hb; exact hne _ (by simp [optBlk]))
      · unfold FuseAt
        simp only
        rw [heap_setCell_same _ _ _ _ _ _ h6]; rfl
      · exact ⟨h9.len, h9.n1, h9.n2, h9.M, fun z'' hz'' => by cases hz''; exact hz'⟩
/-- The fuse taken away. -/
theorem Dsk.unfuse {w : World} {F : List Nat} {g n : Nat} {D : DiskSt} (h : Dsk w F g n D) :
    w.frozen? ⟨g, 3, none⟩ = false ∧ (∃ p, w.cell? ⟨g, 3, none⟩ = some (.pointer p)) ∧ Dsk (w.setCell ⟨g, 3, none⟩ (.pointer none)) F g n { D with fuse := none } ∧ TS F w (w.setCell ⟨g, 3, none⟩ (.pointer none)) := by
  obtain ⟨gb, c, gm, O, oc, L, V, h1, h2, h3, h4, h5, h6, h7, h8, h9, h10⟩ := h
  obtain ⟨q0, q1, q2, q3⟩ := row4 h1
  have hts : TS [g] w (w.setCell ⟨g, 3, none⟩ (.pointer none)) := TS.tb (TB.set w 3 _) (by simp)
  have hsub : ([g, gb, gm] ++ (optBlk O ++ ([] : List Nat))).Sublist ([g, gb, gm] ++ (optBlk O ++ L.toList)) := List.Sublist.append_left (List.Sublist.append_left (List.nil_sublist _) _) _
  have hne : ∀ x ∈ [gb, gm] ++ (optBlk O ++ L.toList), x ∉ [g] := by
    intro x hx hl
    simp only [List.mem_singleton] at hl
    subst hl
    simp only [List.cons_append, List.nil_append, List.nodup_cons] at h7
    exact h7.1 (by simpa using hx)
  refine ⟨frozen_row _ h1 3, ⟨_, q3⟩, ⟨gb, c, gm, O, oc, none, V, ?_, ?_, ?_, ?_, ?_, trivial, h7.sublist hsub, fun x hx => h8 x (hsub.subset hx), ⟨h9.len, h9.n1, h9.n2, h9.M, fun z hz => by cases hz⟩, fun x hx => by simpa using h10 x hx⟩, TS.tb (TB.set w 3 _) (h8 g (by simp))⟩
  · rw [heap_setCell_same _ _ _ _ _ _ h1]; rfl
  · exact hts.ownV h2 (fun b hb => by cases hb; exact hne gb (by simp))
  · exact h3.ts hts (hne gm (by simp))
  · exact h4.move (fun A x hr hb => hts.rd hr (fun ad ha hf => (hb ad ha).2 (by simp at hf; rw [hf]; simp))) (fun b h h' => ⟨h, fun hm => h' (hsub.subset hm)⟩)
  · exact hts.ownV h5 (fun b hb => by
      cases O with
      | none => cases hb
      | some ad => cases hb; exact hne _ (by simp [optBlk]))
/-- What a walk is given of it. -/
theorem Dsk.cells {w : World} {F : List Nat} {g n : Nat} {D : DiskSt} (h : Dsk w F g n D) : ∃ (gb c gm : Nat) (O : Option Addr) (oc : Nat) (L : Option Nat),
    w.cell? ⟨g, 0, none⟩ = some (.slice (some ⟨gb, 0, none⟩) (512 * n) c) ∧ w.cell? ⟨g, 1, none⟩ = some (.map (some gm)) ∧ w.cell? ⟨g, 2, none⟩ = some (.slice O D.M.length oc) ∧ w.cell? ⟨g, 3, none⟩ = some (.pointer (L.map fun l => ⟨l, 0, none⟩)) ∧
    w.frozen? ⟨g, 2, none⟩ = false ∧ w.frozen? ⟨g, 3, none⟩ = false ∧ 1 ≤ n ∧ n ≤ 32768 := by
  obtain ⟨gb, c, gm, O, oc, L, V, h1, h2, h3, h4, h5, h6, h7, h8, h9, h10⟩ := h
  obtain ⟨q0, q1, q2, q3⟩ := row4 h1
  exact ⟨gb, c, gm, O, oc, L, q0, q1, q2, q3, frozen_row _ h1 _, frozen_row _ h1 _, h9.n1, h9.n2⟩
set_option maxRecDepth 100000 in
set_option maxHeartbeats 400000 in
theorem dsk_made {w : World} {F : List Nat} {g n : Nat} {D : DiskSt} (h : Dsk w F g n D) :
    Calls Try.prog 36 #[.pointer (some ⟨g, 0, none⟩)] w fun e w' => e = .returned (.bool true) ∧ w = w' := by
  obtain ⟨gb, c, gm, O, oc, L, q0, q1, q2, q3, f2, f3, hn1, hn2⟩ := h.cells
  have hnil : ∀ W, (binOp .neq 68 (.map (some gm)) (.map none)).run Try.prog W = .ok (.bool true) W := fun W => run_neq_map_nil W 68 _ _ (some gm) Try.underlying68
  clear h
  go_enter Try.func36, Try.ntmps36
  go_wp2
  go_ret
  exact ⟨rfl, rfl⟩
set_option maxRecDepth 100000 in
set_option maxHeartbeats 400000 in
theorem dsk_Sectors {w : World} {F : List Nat} {g n : Nat} {D : DiskSt} (h : Dsk w F g n D) :
    Calls Try.prog 25 #[.pointer (some ⟨g, 0, none⟩)] w fun e w' => e = .returned (.int .i64 (n : Int)) ∧ w = w' := by
  obtain ⟨gb, c, gm, O, oc, L, q0, q1, q2, q3, f2, f3, hn1, hn2⟩ := h.cells
  have H := Lib.hid h
  have hq : ((512 * n : Nat) : Int).tdiv 512 = (n : Int) := by rw [Int.tdiv_eq_ediv_of_nonneg (by omega)]; omega
  have hq2 : (512 * (n : Int)).tdiv 512 = (n : Int) := by rw [Int.tdiv_eq_ediv_of_nonneg (by omega)]; omega
  clear h
  go_enter Try.func25, Try.ntmps25
  go_wp2_with fail
  refine (dsk_made H.out).mono ?_
  rintro e w1 ⟨rfl, rfl⟩
  go_wp2
  go_ret
  refine ⟨?_, rfl⟩
  first | rfl | (congr 2)
/-- Does the operation fail; and what is left of the fuse. -/
def ffail : Option Int → Bool × Option Int
  | none => (false, none)
  | some z => if 0 < z then (false, some (z - 1)) else (true, none)
set_option maxRecDepth 100000 in
set_option maxHeartbeats 1000000 in
theorem dsk_fails {w : World} {F : List Nat} {g n : Nat} {D : DiskSt} (h : Dsk w F g n D) :
    Calls Try.prog 40 #[.pointer (some ⟨g, 0, none⟩)] w fun e w' => e = .returned (.bool (ffail D.fuse).1) ∧ Dsk w' F g n { D with fuse := (ffail D.fuse).2 } ∧ TS F w w' := by
  have H := Lib.hid h
  rcases h.fuse_cases with ⟨hf, q3⟩ | ⟨l, z, hf, hz0, hz1, q3, q4, f4, hset⟩
  · have hD : ({ D with fuse := (ffail none).2 } : DiskSt) = D := by
      cases D; simp only [ffail] at hf ⊢; rw [← hf]
    rw [hf, hD]
    have HH := Lib.hid H.out
    clear hf hD h H
    go_enter Try.func40, Try.ntmps40
    go_wp2
    go_ret
    exact ⟨rfl, HH.out, TS.refl _ _⟩
  · by_cases hp : 0 < z
    · have hS := hset (z - 1) (by omega)
      have HS := Lib.hid hS
      have hw1 : IntKind.i64.wrap (z - 1) = z - 1 := by rw [IntKind.wrap_i64]; omega
      rw [hf, ffail, if_pos hp]
      clear hset hS h hf
      go_enter Try.func40, Try.ntmps40
      go_wp2
      go_ret
      exact ⟨rfl, HS.out.1, HS.out.2⟩
    · obtain ⟨f3, -, hu1, hu2⟩ := h.unfuse
      have HS := Lib.hid (And.intro hu1 hu2)
      rw [hf, ffail, if_neg hp]
      clear hset hu1 hu2 h hf
      go_enter Try.func40, Try.ntmps40
      go_wp2
      go_ret
      exact ⟨rfl, HS.out.1, HS.out.2⟩
/-- A fuse laid in. -/
theorem Dsk.light {w : World} {F : List Nat} {g n : Nat} {D : DiskSt} (h : Dsk w F g n D) (hf : D.fuse = none) (l : Nat) (z : Int) (hl : w.heap[l]? = some (.cells #[.int .i64 z] 3 (0, 0))) (hn : l ∉ F) (hz : 0 ≤ z ∧ z ≤ 9223372036854775807) :
    Dsk (w.setCell ⟨g, 3, none⟩ (.pointer (some ⟨l, 0, none⟩))) (l :: F) g n { D with fuse := some z } ∧ TS F w (w.setCell ⟨g, 3, none⟩ (.pointer (some ⟨l, 0, none⟩))) := by
  obtain ⟨gb, c, gm, O, oc, L, V, h1, h2, h3, h4, h5, h6, h7, h8, h9, h10⟩ := h
  unfold FuseAt at h6
  cases L with
  | some l' => rw [hf] at h6; exact absurd h6 (by simp)
  | none =>
    have hts : TS [g] w (w.setCell ⟨g, 3, none⟩ (.pointer (some ⟨l, 0, none⟩))) := TS.tb (TB.set w 3 _) (by simp)
    have hlc : ∀ x ∈ [g, gb, gm] ++ (optBlk O ++ ([] : List Nat)), x ≠ l := fun x hx e => hn (e ▸ h8 x (by simpa using hx))
    have hne : ∀ x ∈ [gb, gm] ++ optBlk O, x ∉ [g] := by
      intro x hx hl
      simp only [List.mem_singleton] at hl
      subst hl
      simp only [List.cons_append, List.nil_append, List.nodup_cons] at h7
      exact h7.1 (by simpa using hx)
    refine ⟨⟨gb, c, gm, O, oc, some l, V, ?_, ?_, ?_, ?_, ?_, ?_, ?_, ?_, ⟨h9.len, h9.n1, h9.n2, h9.M, fun z' hz' => by cases hz'; exact hz⟩, ?_⟩, TS.tb (TB.set w 3 _) (h8 g (by simp))⟩
    · rw [heap_setCell_same _ _ _ _ _ _ h1]; rfl
    · exact hts.ownV h2 (fun b hb => by cases hb; exact hne gb (by simp))
    · exact h3.ts hts (hne gm (by simp))
    · exact h4.move (fun A x hr hb => hts.rd hr (fun ad ha hf => (hb ad ha).2 (by simp at hf; rw [hf]; simp))) (fun b h h' => ⟨List.mem_cons_of_mem _ h, fun hm => by
        simp only [Option.toList_some, List.mem_append, List.mem_singleton, List.mem_cons] at hm
        rcases hm with hm | hm | hm
        · exact h' (by simp only [List.mem_append]; exact .inl (by simpa using hm))
        · exact h' (by simp only [List.mem_append]; exact .inr (.inl hm))
        · rcases hm with hm | hm
          · exact hn (hm ▸ h)
          · cases hm⟩)
    · exact hts.ownV h5 (fun b hb => by
        cases O with
        | none => cases hb
        | some ad => cases hb; exact hne _ (by simp [optBlk]))
    · unfold FuseAt
      simp only
      rw [hts.block l (Array.getElem?_eq_some_iff.1 hl).1 (fun hm => by simp at hm; exact hlc g (by simp) hm.symm)]; exact hl
    · rw [Option.toList_some, ← List.append_assoc, List.nodup_append]
      refine ⟨by simpa using h7, by simp, fun a ha b hb => ?_⟩
      simp only [List.mem_singleton] at hb
      subst hb
      exact hlc a (by simpa using ha)
    · intro x hx
      rw [Option.toList_some, ← List.append_assoc, List.mem_append] at hx
      rcases hx with hx | hx
      · exact List.mem_cons_of_mem _ (h8 x (by simpa using hx))
      · simp only [List.mem_singleton] at hx; subst hx; exact List.mem_cons_self
    · intro x hx
      simp only [List.mem_cons] at hx
      rcases hx with rfl | hx
      · simpa using (Array.getElem?_eq_some_iff.1 hl).1
      · simpa using h10 x hx
/-- What an operation leaves: the disk, with blocks of its own and new ones; nothing else turned. -/
def DskRes (w : World) (F : List Nat) (g n : Nat) (D : DiskSt) (w' : World) : Prop := ∃ F', (∀ x ∈ F', x ∈ F ∨ w.heap.size ≤ x) ∧ Dsk w' F' g n D ∧ TS F w w'
end Go.Proofs.Ytoidlmhebnlnbaa
