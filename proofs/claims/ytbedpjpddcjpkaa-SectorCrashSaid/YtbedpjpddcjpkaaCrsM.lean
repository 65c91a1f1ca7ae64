/- SectorCrash: the memory of its walk: a disk, the rows flushed, the rows written last. -/
import Derived.Test.YtbedpjpddcjpkaaRws
import Derived.Test.YtbedpjpddcjpkaaCrsP
set_option linter.unusedVariables false
set_option linter.unusedSimpArgs false
namespace Go.Proofs.Ytbedpjpddcjpkaa
open Go.ChangeShapes Go.WideShapes Go.ChangeAt Go.RowKit Go.MapKept

structure CrS (w0 w : World) (F : List Nat) (g n : Nat) (D : DiskSt) (gf gl : Nat) (fl la : List (List Byte)) : Prop where
  dw : DW w0 w F g n D
  fuse : D.fuse = none
  rf : RowsAt w (gf :: gl :: F) gf fl
  rl : RowsAt w (gf :: gl :: F) gl la
  nf : gf ∉ F
  nl : gl ∉ F
  ne : gf ≠ gl
  lf : w0.heap.size ≤ gf
  ll : w0.heap.size ≤ gl
section
variable {w0 w w' : World} {F F' : List Nat} {g n : Nat} {D D' : DiskSt} {gf gl : Nat} {fl la : List (List Byte)}
theorem CrS.fb (h : CrS w0 w F g n D gf gl fl la) (k : FB w w') : CrS w0 w' F g n D gf gl fl la := ⟨h.dw.fbn k, h.fuse, h.rf.fb k, h.rl.fb k, h.nf, h.nl, h.ne, h.lf, h.ll⟩
theorem CrS.disk (h : CrS w0 w F g n D gf gl fl la) (hd : DW w0 w' F' g n D') (ht : TS F w w') (hF : ∀ x ∈ F', x ∈ F ∨ w.heap.size ≤ x) (hf : D'.fuse = none) : CrS w0 w' F' g n D' gf gl fl la := by
  have hF2 : ∀ x ∈ gf :: gl :: F', x ∈ gf :: gl :: F ∨ w.heap.size ≤ x := fun x hx => by
    simp only [List.mem_cons] at hx ⊢
    rcases hx with hx | hx | hx
    · exact .inl (.inl hx)
    · exact .inl (.inr (.inl hx))
    · rcases hF x hx with h | h
      · exact .inl (.inr (.inr h))
      · exact .inr h
  have h1 := (h.rf.widen (X' := gf :: gl :: (F' ++ F)) (fun x hx => by
    simp only [List.mem_cons, List.mem_append] at hx ⊢
    rcases hx with hx | hx | hx | hx
    · exact .inl (.inl hx)
    · exact .inl (.inr (.inl hx))
    · rcases hF x hx with h | h
      · exact .inl (.inr (.inr h))
      · exact .inr h
    · exact .inl (.inr (.inr hx))) (by simp)).ts ht h.nf (fun x hx => by simp [hx])
  have h2 := (h.rl.widen (X' := gf :: gl :: (F' ++ F)) (fun x hx => by
    simp only [List.mem_cons, List.mem_append] at hx ⊢
    rcases hx with hx | hx | hx | hx
    · exact .inl (.inl hx)
    · exact .inl (.inr (.inl hx))
    · rcases hF x hx with h | h
      · exact .inl (.inr (.inr h))
      · exact .inr h
    · exact .inl (.inr (.inr hx))) (by simp)).ts ht h.nl (fun x hx => by simp [hx])
  have hsub : ∀ x ∈ gf :: gl :: F', x ∈ gf :: gl :: (F' ++ F) ∨ w'.heap.size ≤ x := fun x hx => by
    simp only [List.mem_cons, List.mem_append] at hx ⊢
    rcases hx with hx | hx | hx
    · exact .inl (.inl hx)
    · exact .inl (.inr (.inl hx))
    · exact .inl (.inr (.inr (.inl hx)))
  refine ⟨hd, hf, h1.widen hsub (by simp), h2.widen hsub (by simp), fun hm => ?_, fun hm => ?_, h.ne, h.lf, h.ll⟩
  · rcases hF _ hm with h' | h'
    · exact h.nf h'
    · have := h.rf.lt; omega
  · rcases hF _ hm with h' | h'
    · exact h.nl h'
    · have := h.rl.lt; omega
/-- The latest bytes of a sector laid down. -/
theorem CrS.setl (h : CrS w0 w F g n D gf gl fl la) (i : Nat) (hi : i < la.length) {A : Option Addr} {c : Nat} {xs : List Byte} (hr : Rd w A xs) (m : Nat) (hm : m = xs.length) (h1 : m ≤ c) (h2 : c ≤ maxLen) (hA : ∀ ad, A = some ad → ad.block ∉ gf :: gl :: F ∧ ad.block < w.heap.size) :
    CrS w0 (w.setCell ⟨gl, i, none⟩ (.slice A m c)) F g n D gf gl fl (la.set i xs) := by
  subst hm
  obtain ⟨k1, k2⟩ := h.rl.set i hi hr h1 h2 hA
  have hts := TS.tb (F := [gl]) k2 (by simp)
  refine ⟨⟨h.dw.dsk.ts hts (by simpa using h.nl), h.dw.fb.tb k2 h.ll, h.dw.own⟩, h.fuse, h.rf.ts hts (by simpa using h.ne) (by simp), k1, h.nf, h.nl, h.ne, h.lf, h.ll⟩
theorem CrS.setf (h : CrS w0 w F g n D gf gl fl la) (i : Nat) (hi : i < fl.length) {A : Option Addr} {c : Nat} {xs : List Byte} (hr : Rd w A xs) (m : Nat) (hm : m = xs.length) (h1 : m ≤ c) (h2 : c ≤ maxLen) (hA : ∀ ad, A = some ad → ad.block ∉ gf :: gl :: F ∧ ad.block < w.heap.size) :
    CrS w0 (w.setCell ⟨gf, i, none⟩ (.slice A m c)) F g n D gf gl (fl.set i xs) la := by
  subst hm
  obtain ⟨k1, k2⟩ := h.rf.set i hi hr h1 h2 hA
  have hts := TS.tb (F := [gf]) k2 (by simp)
  refine ⟨⟨h.dw.dsk.ts hts (by simpa using h.nf), h.dw.fb.tb k2 h.lf, h.dw.own⟩, h.fuse, k1, h.rl.ts hts (by simpa using h.ne.symm) (by simp), h.nf, h.nl, h.ne, h.lf, h.ll⟩
theorem CrS.copy (h : CrS w0 w F g n D gf gl fl la) (hl : fl.length = la.length) (m : Nat) (hm : m = la.length) (ca cb : Nat) :
    ∃ w', (∀ ty, (Builtin.copy_ #[33, 33] ty #[.slice (some ⟨gf, 0, none⟩) m ca, .slice (some ⟨gl, 0, none⟩) m cb]).run Try.prog w = .ok (goInt m) w') ∧ CrS w0 w' F g n D gf gl la la := by
  obtain ⟨w', k0, k1, k2⟩ := h.rf.copy h.rl hl m hm ca cb
  have hts := TS.tb (F := [gf]) k2 (by simp)
  exact ⟨w', k0, ⟨h.dw.dsk.ts hts (by simpa using h.nf), h.dw.fb.tb k2 h.lf, h.dw.own⟩, h.fuse, k1, h.rl.ts hts (by simpa using h.ne.symm) (by simp), h.nf, h.nl, h.ne, h.lf, h.ll⟩
end
end Go.Proofs.Ytbedpjpddcjpkaa
