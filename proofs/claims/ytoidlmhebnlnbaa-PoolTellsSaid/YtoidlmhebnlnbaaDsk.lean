/- A disk: its blocks; what may turn; the walks through made, Sectors, fails. -/
import Derived.Test.YtoidlmhebnlnbaaMp
import Derived.Test.YtoidlmhebnlnbaaTs
import Derived.Test.YtoidlmhebnlnbaaOctA
set_option linter.unusedVariables false
set_option linter.unusedSimpArgs false
namespace Go.Proofs.Ytoidlmhebnlnbaa
open Go.ChangeShapes Go.WideShapes Go.ChangeAt Go.RowKit Go.MapKept

theorem MapAt.ts {F : List Nat} {w w' : World} {m : Nat} {M : List (Int × Value)} (h : MapAt w m M) (k : TS F w w') (hm : m ∉ F) : MapAt w' m M := h.block (k.block m h.lt hm)
theorem row4 {W : World} {g : Nat} {a b c d : Value} {t : TypeId} {fr : Nat × Nat} (h : W.heap[g]? = some (.cells #[a, b, c, d] t fr)) :
    W.cell? ⟨g, 0, none⟩ = some a ∧ W.cell? ⟨g, 1, none⟩ = some b ∧ W.cell? ⟨g, 2, none⟩ = some c ∧ W.cell? ⟨g, 3, none⟩ = some d := by
  refine ⟨?_, ?_, ?_, ?_⟩ <;> (rw [cell_of_row _ _ _ _ _ _ h]; rfl)

/-- The cached bytes, each in a row that nothing else of the disk lies in. -/
inductive Vals (w : World) (F ctl : List Nat) : List (Int × Value) → List (Int × List Byte) → Prop
  | nil : Vals w F ctl [] []
  | cons {k : Int} {A : Option Addr} {c : Nat} {x : List Byte} {V : List (Int × Value)} {M : List (Int × List Byte)} (hr : Rd w A x) (h1 : x.length ≤ c) (h2 : c ≤ maxLen) (hb : ∀ ad, A = some ad → ad.block ∈ F ∧ ad.block ∉ ctl) (ht : Vals w F ctl V M) : Vals w F ctl ((k, .slice A x.length c) :: V) ((k, x) :: M)
theorem Vals.move {w w' : World} {F F' ctl ctl' : List Nat} {V : List (Int × Value)} {M : List (Int × List Byte)} (h : Vals w F ctl V M) (hr : ∀ A x, Rd w A x → (∀ ad, A = some ad → ad.block ∈ F ∧ ad.block ∉ ctl) → Rd w' A x) (hb : ∀ b, b ∈ F → b ∉ ctl → b ∈ F' ∧ b ∉ ctl') : Vals w' F' ctl' V M := by
  induction h with
  | nil => exact .nil
  | cons k1 h1 h2 k2 ht ih => exact .cons (hr _ _ k1 k2) h1 h2 (fun ad ha => hb _ (k2 ad ha).1 (k2 ad ha).2) ih
theorem Vals.keys {w : World} {F ctl : List Nat} {V : List (Int × Value)} {M : List (Int × List Byte)} (h : Vals w F ctl V M) : V.map (·.1) = M.map (·.1) := by
  induction h with
  | nil => rfl
  | cons k1 h1 h2 k2 ht ih => simp [ih]
/-- The bytes cached for a sector. -/
def cget : List (Int × List Byte) → Int → Option (List Byte)
  | [], _ => none
  | (k', v) :: M, k => if k' = k then some v else cget M k
def cput : List (Int × List Byte) → Int → List Byte → List (Int × List Byte)
  | [], k, v => [(k, v)]
  | (k', v') :: M, k, v => if k' = k then (k, v) :: M else (k', v') :: cput M k v
theorem Vals.get {w : World} {F ctl : List Nat} {V : List (Int × Value)} {M : List (Int × List Byte)} (h : Vals w F ctl V M) (k : Int) :
    (mget V k = none ∧ cget M k = none) ∨ ∃ A c x, mget V k = some (.slice A x.length c) ∧ cget M k = some x ∧ Rd w A x ∧ x.length ≤ c ∧ c ≤ maxLen ∧ ∀ ad, A = some ad → ad.block ∈ F ∧ ad.block ∉ ctl := by
  induction h with
  | nil => exact .inl ⟨rfl, rfl⟩
  | @cons k' A c x V M hr h1 h2 hb ht ih =>
    rw [mget, cget]
    by_cases h0 : k' = k
    · rw [if_pos h0, if_pos h0]; exact .inr ⟨A, c, x, rfl, rfl, hr, h1, h2, hb⟩
    · rw [if_neg h0, if_neg h0]; exact ih
theorem Vals.put {w : World} {F ctl : List Nat} {V : List (Int × Value)} {M : List (Int × List Byte)} (h : Vals w F ctl V M) (k : Int) {A : Option Addr} {c : Nat} {x : List Byte} (hr : Rd w A x) (h1 : x.length ≤ c) (h2 : c ≤ maxLen) (hb : ∀ ad, A = some ad → ad.block ∈ F ∧ ad.block ∉ ctl) :
    Vals w F ctl (mput V k (.slice A x.length c)) (cput M k x) := by
  induction h with
  | nil => exact .cons hr h1 h2 hb .nil
  | @cons k' A' c' x' V M hr' h1' h2' hb' ht ih =>
    rw [mput, cput]
    by_cases h0 : k' = k
    · rw [if_pos h0, if_pos h0]; exact .cons hr h1 h2 hb ht
    · rw [if_neg h0, if_neg h0]; exact .cons hr' h1' h2' hb' ih
/-- What a disk holds: its bytes, its cache in order, how many operations it does ahead of the one that fails. -/
structure DiskSt where
  b : List Byte
  M : List (Int × List Byte)
  fuse : Option Int
/-- May it be? (so many sectors) -/
structure DiskSt.ok (D : DiskSt) (n : Nat) : Prop where
  len : D.b.length = 512 * n
  n1 : 1 ≤ n
  n2 : n ≤ 32768
  M : ∀ p ∈ D.M, 0 ≤ p.1 ∧ p.1 < n ∧ p.2.length = 512
  f : ∀ z, D.fuse = some z → 0 ≤ z ∧ z ≤ 9223372036854775807
def optBlk (O : Option Addr) : List Nat := O.toList.map (·.block)
/-- The fuse's block, and what it holds. -/
def FuseAt (w : World) (L : Option Nat) (f : Option Int) : Prop := match L, f with | none, none => True | some l, some z => w.heap[l]? = some (.cells #[.int .i64 z] 3 (0, 0)) | _, _ => False
/-- A disk at block g, which owns the blocks F. -/
def Dsk (w : World) (F : List Nat) (g n : Nat) (D : DiskSt) : Prop :=
  ∃ (gb c gm : Nat) (O : Option Addr) (oc : Nat) (L : Option Nat) (V : List (Int × Value)),
    w.heap[g]? = some (.cells #[.slice (some ⟨gb, 0, none⟩) (512 * n) c, .map (some gm), .slice O D.M.length oc, .pointer (L.map fun l => ⟨l, 0, none⟩)] 71 (0, 0)) ∧
    Own w 0 (.slice (some ⟨gb, 0, none⟩) (512 * n) c) D.b ∧ MapAt w gm V ∧ Vals w F ([g, gb, gm] ++ (optBlk O ++ L.toList)) V D.M ∧
    OwnV 3 w 0 (.slice O D.M.length oc) (D.M.map fun p => .int .i64 p.1) ∧
    FuseAt w L D.fuse ∧
    ([g, gb, gm] ++ (optBlk O ++ L.toList)).Nodup ∧ (∀ x ∈ [g, gb, gm] ++ (optBlk O ++ L.toList), x ∈ F) ∧ D.ok n ∧ ∀ x ∈ F, x < w.heap.size
end Go.Proofs.Ytoidlmhebnlnbaa
