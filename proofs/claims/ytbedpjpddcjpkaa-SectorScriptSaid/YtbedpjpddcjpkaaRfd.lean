/- The reference's disk: its blocks; the walks through New, Sectors, fails, find. -/
import Derived.Test.YtbedpjpddcjpkaaCrsP
import Derived.Test.YtbedpjpddcjpkaaRws
import Derived.Test.YtbedpjpddcjpkaaSchB
import Derived.Test.YtbedpjpddcjpkaaKit
set_option linter.unusedVariables false
set_option linter.unusedSimpArgs false
namespace Go.Proofs.Ytbedpjpddcjpkaa
open Go.ChangeShapes Go.WideShapes Go.ChangeAt Go.RowKit Go.MapKept

/-- The fuse as a number. -/
def fzi : Option Int → Int
  | none => -1
  | some z => z
def rctl (g gb : Nat) (NA CA : Option Addr) : List Nat := [g, gb] ++ (optBlk NA ++ optBlk CA)
structure RD (w : World) (F : List Nat) (g n gb c : Nat) (NA : Option Addr) (nc : Nat) (CA : Option Addr) (cc : Nat) (V : List (Int × Value)) (D : DiskSt) : Prop where
  row : w.heap[g]? = some (.cells #[.slice (some ⟨gb, 0, none⟩) (512 * n) c, .slice NA D.M.length nc, .slice CA D.M.length cc, .int .i64 (fzi D.fuse)] 68 (0, 0))
  bytes : Own w 0 (.slice (some ⟨gb, 0, none⟩) (512 * n) c) D.b
  keys : OwnV 3 w 0 (.slice NA D.M.length nc) (D.M.map fun p => .int .i64 p.1)
  rows : OwnV 34 w 0 (.slice CA D.M.length cc) (V.map (·.2))
  vals : Vals w F (rctl g gb NA CA) V D.M
  nodup : (rctl g gb NA CA).Nodup
  mem : ∀ x ∈ rctl g gb NA CA, x ∈ F
  lt : ∀ x ∈ F, x < w.heap.size
  ok : D.ok n
  nd : (D.M.map (·.1)).Nodup
def RDsk (w : World) (F : List Nat) (g n : Nat) (D : DiskSt) : Prop := ∃ (gb c : Nat) (NA : Option Addr) (nc : Nat) (CA : Option Addr) (cc : Nat) (V : List (Int × Value)), RD w F g n gb c NA nc CA cc V D
def RRes (w : World) (F : List Nat) (g n : Nat) (D : DiskSt) (w' : World) : Prop := ∃ F', (∀ x ∈ F', x ∈ F ∨ w.heap.size ≤ x) ∧ RDsk w' F' g n D ∧ TS F w w'
section
variable {w w' : World} {F F' : List Nat} {g n gb c : Nat} {NA : Option Addr} {nc : Nat} {CA : Option Addr} {cc : Nat} {V : List (Int × Value)} {D : DiskSt}
theorem own_out {A : Option Addr} {n c k : Nat} (h : (Value.slice A n c).ownBlock = some k) : k ∈ optBlk A := by
  cases A with
  | none => cases h
  | some ad => cases h; simp [optBlk]
theorem RD.ts (h : RD w F g n gb c NA nc CA cc V D) (k : TS F' w w') (hd : ∀ x ∈ F', x ∉ F) : RD w' F g n gb c NA nc CA cc V D := by
  have hn : ∀ x ∈ rctl g gb NA CA, x ∉ F' := fun x hx hf => hd x hf (h.mem x hx)
  refine ⟨?_, ?_, ?_, ?_, ?_, h.nodup, h.mem, fun x hx => Nat.lt_of_lt_of_le (h.lt x hx) k.size, h.ok, h.nd⟩
  · rw [k.block g (Array.getElem?_eq_some_iff.1 h.row).1 (hn g (by simp [rctl]))]; exact h.row
  · exact k.ownV h.bytes (fun b hb => by cases hb; exact hn gb (by simp [rctl]))
  · exact k.ownV h.keys (fun b hb => hn b (by simp [rctl, own_out hb]))
  · exact k.ownV h.rows (fun b hb => hn b (by simp [rctl, own_out hb]))
  · exact h.vals.move (fun A x hr hb => k.rd hr (fun ad ha hf => hd _ hf (hb ad ha).1)) (fun b h h' => ⟨h, h'⟩)
theorem RDsk.ts (h : RDsk w F g n D) (k : TS F' w w') (hd : ∀ x ∈ F', x ∉ F) : RDsk w' F g n D := by
  obtain ⟨gb, c, NA, nc, CA, cc, V, h⟩ := h
  exact ⟨gb, c, NA, nc, CA, cc, V, h.ts k hd⟩
theorem RDsk.fb (h : RDsk w F g n D) (k : FB w w') : RDsk w' F g n D := h.ts (F' := []) (TS.of k) (by simp)
theorem RD.fb (h : RD w F g n gb c NA nc CA cc V D) (k : FB w w') : RD w' F g n gb c NA nc CA cc V D := h.ts (F' := []) (TS.of k) (by simp)
theorem RDsk.lt (h : RDsk w F g n D) : ∀ x ∈ F, x < w.heap.size := by obtain ⟨gb, c, NA, nc, CA, cc, V, h⟩ := h; exact h.lt
theorem RDsk.mem (h : RDsk w F g n D) : g ∈ F := by obtain ⟨gb, c, NA, nc, CA, cc, V, h⟩ := h; exact h.mem g (by simp [rctl])
theorem RDsk.ok (h : RDsk w F g n D) : D.ok n := by obtain ⟨gb, c, NA, nc, CA, cc, V, h⟩ := h; exact h.ok
theorem RDsk.nd (h : RDsk w F g n D) : (D.M.map (·.1)).Nodup := by obtain ⟨gb, c, NA, nc, CA, cc, V, h⟩ := h; exact h.nd
theorem RD.mlen (h : RD w F g n gb c NA nc CA cc V D) : D.M.length ≤ n := by
  have := keys_len n (D.M.map (·.1)) h.nd (fun x hx => by
    obtain ⟨p, hp, rfl⟩ := List.mem_map.1 hx
    have := h.ok.M p hp
    exact ⟨this.1, this.2.1⟩)
  rwa [List.length_map] at this
theorem RDsk.mlen (h : RDsk w F g n D) : D.M.length ≤ n := by obtain ⟨gb, c, NA, nc, CA, cc, V, h⟩ := h; exact h.mlen
theorem fzi_ge (h : D.ok n) : -1 ≤ fzi D.fuse ∧ fzi D.fuse ≤ 9223372036854775807 := by
  cases hf : D.fuse with
  | none => simp [fzi]
  | some z => have := h.f z hf; simp [fzi]; omega
/-- The fuse written. -/
theorem RD.refuse (h : RD w F g n gb c NA nc CA cc V D) (f : Option Int) (hf : ∀ z, f = some z → 0 ≤ z ∧ z ≤ 9223372036854775807) (z : Int) (hz : z = fzi f) :
    RD (w.setCell ⟨g, 3, none⟩ (.int .i64 z)) F g n gb c NA nc CA cc V { D with fuse := f } ∧ TS F w (w.setCell ⟨g, 3, none⟩ (.int .i64 z)) := by
  subst hz
  have htb : TB g w (w.setCell ⟨g, 3, none⟩ (.int .i64 (fzi f))) := TB.set w 3 _
  have hts : TS [g] w (w.setCell ⟨g, 3, none⟩ (.int .i64 (fzi f))) := TS.tb htb (by simp)
  have hnd := h.nodup
  have hne : ∀ x ∈ [gb] ++ (optBlk NA ++ optBlk CA), x ∉ [g] := by
    intro x hx hl
    simp only [List.mem_singleton] at hl
    subst hl
    simp only [rctl, List.cons_append, List.nil_append, List.nodup_cons] at hnd
    exact hnd.1 (by simpa using hx)
  refine ⟨⟨?_, ?_, ?_, ?_, ?_, h.nodup, h.mem, fun x hx => by simpa using h.lt x hx, ⟨h.ok.len, h.ok.n1, h.ok.n2, h.ok.M, hf⟩, h.nd⟩, TS.tb htb (h.mem g (by simp [rctl]))⟩
  · rw [heap_setCell_same _ _ _ _ _ _ h.row]; rfl
  · exact hts.ownV h.bytes (fun b hb => by cases hb; exact hne gb (by simp))
  · exact hts.ownV h.keys (fun b hb => hne b (by simp [own_out hb]))
  · exact hts.ownV h.rows (fun b hb => hne b (by simp [own_out hb]))
  · exact h.vals.move (fun A x hr hb => hts.rd hr (fun ad ha hf => (hb ad ha).2 (by simp at hf; simp [rctl, hf]))) (fun b h h' => ⟨h, h'⟩)
end
/-- A sector's place in the cache. -/
def cfi : List (Int × List Byte) → Int → Option Nat
  | [], _ => none
  | (k', _) :: M, k => if k' = k then some 0 else (cfi M k).map (· + 1)
def cfiZ (M : List (Int × List Byte)) (k : Int) : Int := match cfi M k with | none => -1 | some i => (i : Int)
theorem cfi_spec : ∀ (M : List (Int × List Byte)) (k : Int), (cfi M k = none ∧ cget M k = none ∧ (∀ x, cput M k x = M ++ [(k, x)]) ∧ ∀ (j : Nat) p, M[j]? = some p → p.1 ≠ k) ∨
    (∃ i x, cfi M k = some i ∧ i < M.length ∧ M[i]? = some (k, x) ∧ cget M k = some x ∧ (∀ y, cput M k y = M.set i (k, y)) ∧ ∀ (j : Nat) p, j < i → M[j]? = some p → p.1 ≠ k)
  | [], k => .inl ⟨rfl, rfl, fun _ => rfl, fun j p h => by simp at h⟩
  | (pk, pv) :: M, k => by
    by_cases h : pk = k
    · subst h
      refine .inr ⟨0, pv, by simp [cfi], by simp, rfl, by simp [cget], fun y => by simp [cput], fun j p hj => absurd hj (by omega)⟩
    · rcases cfi_spec M k with ⟨h1, h2, h3, h4⟩ | ⟨i, x, h1, h2, h3, h4, h5, h6⟩
      · refine .inl ⟨by simp [cfi, h, h1], by simp [cget, h, h2], fun x => by simp [cput, h, h3], fun j p hp => ?_⟩
        cases j with
        | zero => simp at hp; subst hp; exact h
        | succ j => exact h4 j p (by simpa using hp)
      · refine .inr ⟨i + 1, x, by simp [cfi, h, h1], by simpa using h2, by simpa using h3, by simp [cget, h, h4], fun y => by simp [cput, h, h5], fun j p hj hp => ?_⟩
        cases j with
        | zero => simp at hp; subst hp; exact h
        | succ j => exact h6 j p (by omega) (by simpa using hp)
set_option maxRecDepth 100000
section
variable {w : World} {F : List Nat} {g n : Nat} {D : DiskSt}
set_option maxHeartbeats 400000 in
theorem ref_Sectors (h : RDsk w F g n D) : Calls Try.prog 34 #[.pointer (some ⟨g, 0, none⟩)] w fun e w' => e = .returned (.int .i64 (n : Int)) ∧ w = w' := by
  obtain ⟨gb, c, NA, nc, CA, cc, V, h⟩ := h
  obtain ⟨q0, q1, q2, q3⟩ := row4 h.row
  have hn := h.ok.n2
  have hq : (((512 * n : Nat) : Int)).tdiv 512 = (n : Int) := by rw [Int.tdiv_eq_ediv_of_nonneg (by omega)]; omega
  have hq2 : (512 * (n : Int)) / 512 = (n : Int) := by omega
  have hq3 : (512 * (n : Int)).tdiv 512 = (n : Int) := by rw [Int.tdiv_eq_ediv_of_nonneg (by omega)]; omega
  have hb : (n : Int) ≤ 32768 := by omega
  clear h hn
  go_enter Try.func34, Try.ntmps34
  go_wp2
  go_ret
  exact ⟨rfl, rfl⟩
set_option maxHeartbeats 400000 in
theorem ref_fails (h : RDsk w F g n D) : Calls Try.prog 41 #[.pointer (some ⟨g, 0, none⟩)] w fun e w' => e = .returned (.bool (ffail D.fuse).1) ∧ RDsk w' F g n { D with fuse := (ffail D.fuse).2 } ∧ TS F w w' := by
  obtain ⟨gb, c, NA, nc, CA, cc, V, h⟩ := h
  obtain ⟨q0, q1, q2, q3⟩ := row4 h.row
  have f3 := frozen_row _ h.row 3
  cases hf : D.fuse with
  | none =>
    have hD : ({ D with fuse := (ffail none).2 } : DiskSt) = D := by cases D; simp only [ffail] at hf ⊢; rw [← hf]
    rw [hD]
    rw [hf] at q3
    have H := Lib.hid h
    clear hf h hD
    unfold fzi at q3
    go_enter Try.func41, Try.ntmps41
    go_wp2
    go_ret
    exact ⟨rfl, ⟨gb, c, NA, nc, CA, cc, V, H.out⟩, TS.refl _ _⟩
  | some z =>
    have hz := h.ok.f z hf
    obtain ⟨hz0, hz1⟩ := hz
    obtain ⟨h1, h2⟩ := h.refuse (ffail (some z)).2 (fun y hy => by
      by_cases hp : 0 < z
      · simp [ffail, hp] at hy; omega
      · simp [ffail, hp] at hy) (z - 1) (by
      by_cases hp : 0 < z
      · simp [ffail, hp, fzi]
      · simp [ffail, hp, fzi]; omega)
    have H1 := Lib.hid h1
    have H2 := Lib.hid h2
    rw [hf] at q3
    have hneg : ¬ z < 0 := by omega
    have hc : (ffail (some z)).1 = decide (z - 1 < 0) := by
      by_cases hp : 0 < z
      · simp [ffail, hp]; omega
      · simp [ffail, hp]; omega
    rw [hc]
    clear hf h h1 h2 hc
    unfold fzi at q3
    go_enter Try.func41, Try.ntmps41
    go_wp2
    go_ret
    exact ⟨by simp, ⟨gb, c, NA, nc, CA, cc, V, H1.out⟩, H2.out⟩
set_option maxHeartbeats 1000000 in
theorem ref_find (h : RDsk w F g n D) (k : Int) : Calls Try.prog 42 #[.pointer (some ⟨g, 0, none⟩), .int .i64 k] w fun e w' => e = .returned (.int .i64 (cfiZ D.M k)) ∧ w = w' := by
  have HML := Lib.hid (Nat.le_trans h.mlen h.ok.n2)
  obtain ⟨gb, c, NA, nc, CA, cc, V, h⟩ := h
  obtain ⟨q0, q1, q2, q3⟩ := row4 h.row
  have hk := (OwnV.info h.keys).2.2.1
  have HR := Lib.hid (show RdV w NA ((D.M.map (·.1)).map (.int .i64)) from by rw [List.map_map]; exact hk)
  have hsp := Lib.hid (cfi_spec D.M k)
  have hml := HML.out
  generalize hZ : cfiZ D.M k = Z
  have HZ := Lib.hid hZ
  clear h hk hZ
  generalize hM : D.M = M at *
  clear hM
  go_enter Try.func42, Try.ntmps42
  go_wp2
  go_loop [5] (fun i => ∃ j : Nat, j ≤ M.length ∧ i = .int .i64 j ∧ Hid (∀ (i : Nat) p, i < j → M[i]? = some p → p.1 ≠ k)) (fun i => M.length - (intOf i).toNat)
  case atStart => exact ⟨0, by omega, rfl, fun i p hi => absurd hi (by omega)⟩
  case round =>
    obtain ⟨j, hj, rfl, HT⟩ := hrel
    by_cases hlt : j < M.length
    · have hjx : (j : Int) < (M.length : Int) := by omega
      obtain ⟨b, o, rfl, hq⟩ := RdV.icell HR.out (j := j) (by rw [List.length_map]; exact hlt)
      rw [List.getElem_map] at hq
      have HMJ := Lib.hid (show M[j]? = some M[j] from List.getElem?_eq_getElem hlt)
      generalize M[j] = p at *
      by_cases hpk : p.1 = k
      · have hbe : (p.1 == k) = true := by simp [hpk]
        have HX := Lib.hid (show Z = (j : Int) from by
          rw [← HZ.out]
          rcases hsp.out with ⟨-, -, -, h4⟩ | ⟨i, x, h1, h2, h3, -, -, h6⟩
          · exact absurd hpk (h4 j p HMJ.out)
          · have : i = j := by
              rcases Nat.lt_trichotomy i j with h | h | h
              · exact absurd rfl (HT.out i _ h h3)
              · exact h
              · exact absurd hpk (h6 j p h HMJ.out)
            unfold cfiZ
            rw [h1, this])
        clear hpk
        go_wp2
        go_ret
        exact ⟨by rw [HX.out]; rfl, rfl⟩
      · have hbe : (p.1 == k) = false := by simpa using hpk
        have HT2 := Lib.hid (show ∀ (i : Nat) q, i < j + 1 → M[i]? = some q → q.1 ≠ k from fun i q hi hq2 => by
          by_cases e : i = j
          · subst e; rw [HMJ.out] at hq2; cases hq2; exact hpk
          · exact HT.out i q (by omega) hq2)
        clear hpk
        go_wp2
        go_round
        case rel => exact ⟨j + 1, by omega, by go_num, HT2.out⟩
        case measure => simp [intOf]; omega
    · obtain rfl : j = M.length := by omega
      have hjx : ¬ (M.length : Int) < (M.length : Int) := by omega
      have HX := Lib.hid (show Z = -1 from by
        rw [← HZ.out]
        rcases hsp.out with ⟨h1, -⟩ | ⟨i, x, h1, h2, h3, -⟩
        · unfold cfiZ; rw [h1]
        · exact absurd rfl (HT.out i _ h2 h3))
      go_wp2
      go_ret
      exact ⟨by rw [HX.out]; rfl, rfl⟩
end
end Go.Proofs.Ytbedpjpddcjpkaa
