/- Walks and laws that the claim's last text stands on, several texts in one file: RdrB, RdrC, RdrD, ChF. Under the hypotheses that each theorem states. -/
import Derived.Handy
import Derived.Test.YtoidlmhebnlnbaaDoorMCha
import Derived.Test.YtoidlmhebnlnbaaDoorMChb
import Derived.Test.YtoidlmhebnlnbaaDoorMChc
import Derived.Test.YtoidlmhebnlnbaaDoorMChd
import Derived.Test.YtoidlmhebnlnbaaDoorMChe
import Derived.Test.YtoidlmhebnlnbaaDoorMChf
import Derived.Test.YtoidlmhebnlnbaaDoorMChg
import Derived.Test.YtoidlmhebnlnbaaDoorMChh
import Derived.Test.YtoidlmhebnlnbaaDoorMChi
import Derived.Test.YtoidlmhebnlnbaaDoorMChj
import Derived.Test.YtoidlmhebnlnbaaDoorMChk
import Derived.Test.YtoidlmhebnlnbaaDoorMChl
import Derived.Test.YtoidlmhebnlnbaaDoorMChm
import Derived.Test.YtoidlmhebnlnbaaDoorMChn
/- A reader: the walks through number, Number, Err, Left. -/
set_option linter.unusedVariables false
set_option linter.unusedSimpArgs false
namespace Go.Proofs.YtoidlmhebnlnbaaDoor
open Go.ChangeShapes Go.WideShapes Go.ChangeAt Go.RowKit
attribute [local go_sem] nb_nonneg nb_lt8 nb_lt64 bits_and8l

/-- A number read: an error, or the number and how many bytes it has. -/
def rnum : List Byte → Nat → BitVec 64 → Int ⊕ (BitVec 64 × Nat)
  | [], _, _ => .inl 5
  | c :: cs, i, n => if (i = 9 ∧ 1#8 < c) ∨ (0 < i ∧ c = 0#8) then .inl 4 else
    if c < 128#8 then .inr (n ||| ((c &&& 127#8).setWidth 64) <<< (7 * i), i + 1) else rnum cs (i + 1) (n ||| ((c &&& 127#8).setWidth 64) <<< (7 * i))
/-- What number returns, and does. -/
def NumRes (R : Int ⊕ (BitVec 64 × Nat)) (base g : Nat) (xs : List Byte) (k : Nat) (er : Int) (w : World) (e : Ending) (w' : World) : Prop :=
  match R with
  | .inl x => e = .returned (.tuple #[.int .u64 0, .int .i64 0, .bool false]) ∧ Rdr w' base g xs k x ∧ TB g w w'
  | .inr (n, s) => e = .returned (.tuple #[.int .u64 (nb n), .int .i64 (s : Int), .bool true]) ∧ Rdr w' base g xs k er ∧ TB g w w' ∧ k + s ≤ xs.length

end Go.Proofs.YtoidlmhebnlnbaaDoor
/- A reader: the walks through Number, Err, Left. -/
set_option linter.unusedVariables false
set_option linter.unusedSimpArgs false
namespace Go.Proofs.YtoidlmhebnlnbaaDoor
open Go.ChangeShapes Go.WideShapes Go.ChangeAt Go.RowKit
attribute [local go_sem] nb_nonneg nb_lt8 nb_lt64

def numVal : Int ⊕ (BitVec 64 × Nat) → BitVec 64 | .inl _ => 0#64 | .inr (n, _) => n
def numLen : Int ⊕ (BitVec 64 × Nat) → Nat | .inl _ => 0 | .inr (_, s) => s
def numErr : Int ⊕ (BitVec 64 × Nat) → Int | .inl x => x | .inr _ => 0

end Go.Proofs.YtoidlmhebnlnbaaDoor
/- A reader: the walks through the other cases of Word, Block, Upto, Left, End, and of a nil reader. -/
set_option linter.unusedVariables false
set_option linter.unusedSimpArgs false
namespace Go.Proofs.YtoidlmhebnlnbaaDoor
open Go.ChangeShapes Go.WideShapes Go.ChangeAt Go.RowKit
attribute [local go_sem] nb_nonneg nb_lt8 nb_lt64
set_option maxRecDepth 100000 in
set_option maxHeartbeats 400000 in
theorem oct_RWord_err {xs : List Byte} {base g k : Nat} {w : World} {er : Int} (h : Rdr w base g xs k er) (he : er ≠ 0) (z : Int) :
    Calls Tryd.prog 49 #[.pointer (some ⟨g, 0, none⟩), .int .i64 z] w fun e w' => e = .returned (.int .u64 0) ∧ w = w' := by
  have H := Lib.hid h
  have hd : (er == 0) = false := beq_eq_false_iff_ne.2 he
  clear h he
  go_enter Tryd.func49, Tryd.ntmps49
  go_wp2_with fail
  refine (oct_ready H.out).mono ?_
  rintro e w1 ⟨rfl, rfl⟩
  go_wp2
  go_ret
  exact ⟨rfl, rfl⟩
set_option maxRecDepth 100000 in
set_option maxHeartbeats 400000 in
theorem oct_RWord_bad {xs : List Byte} {base g k : Nat} {w : World} (h : Rdr w base g xs k 0) (z : Int) (hz : ¬ (z = 2 ∨ z = 4 ∨ z = 8)) :
    Calls Tryd.prog 49 #[.pointer (some ⟨g, 0, none⟩), .int .i64 z] w fun e w' => e = .returned (.int .u64 0) ∧ Rdr w' base g xs k 4 ∧ TB g w w' := by
  have H := Lib.hid h
  have h2 : (z == 2) = false := beq_eq_false_iff_ne.2 (by omega)
  have h4 : (z == 4) = false := beq_eq_false_iff_ne.2 (by omega)
  have h8 : (z == 8) = false := beq_eq_false_iff_ne.2 (by omega)
  clear h hz
  go_enter Tryd.func49, Tryd.ntmps49
  go_wp2_with fail
  refine (oct_ready H.out).mono ?_
  rintro e w1 ⟨rfl, rfl⟩
  go_wp2_with fail
  refine (oct_fail H.out _).mono ?_
  rintro e w1 ⟨rfl, rfl⟩
  go_wp2
  go_ret
  exact ⟨rfl, H.out.fail 4 (by omega), TB.set w 2 _⟩
set_option maxRecDepth 100000 in
set_option maxHeartbeats 1000000 in
theorem oct_RWord_more {xs : List Byte} {base g k : Nat} {w : World} (h : Rdr w base g xs k 0) (n : Nat) (hn8 : n = 2 ∨ n = 4 ∨ n = 8) (hn : xs.length < k + n) (hl : xs.length ≤ 100000000000000) :
    Calls Tryd.prog 49 #[.pointer (some ⟨g, 0, none⟩), .int .i64 (n : Int)] w fun e w' => e = .returned (.int .u64 0) ∧ Rdr w' base g xs k 5 ∧ TB g w w' := by
  have H := Lib.hid h
  have hle := h.le
  clear h
  have hb : (((n : Int) == 2) = true ∨ (((n : Int) == 2) = false ∧ ((n : Int) == 4) = true) ∨ (((n : Int) == 2) = false ∧ ((n : Int) == 4) = false ∧ ((n : Int) == 8) = true)) := by
    rcases hn8 with rfl | rfl | rfl <;> simp
  have hz : (xs.length : Int) - k < (n : Int) := by omega
  have hz9 : (n : Int) ≤ 9223372036854775807 := by omega
  clear hn8
  rcases hb with h1 | ⟨h1, h2⟩ | ⟨h1, h2, h3⟩
  all_goals
    go_enter Tryd.func49, Tryd.ntmps49
    go_wp2_with fail
    refine (oct_ready H.out).mono ?_
    rintro e w1 ⟨rfl, rfl⟩
    go_wp2_with fail
    refine (oct_Fixed_more H.out (n : Int) hz hz9 hl).mono ?_
    rintro e w1 ⟨v, rfl, ho, hr, ht⟩
    obtain ⟨A, c, rfl, hc, hcm, hrd, -⟩ := Own.form ho
    have HR1 := Lib.hid hr
    have HT1 := Lib.hid ht
    clear ho hr ht hrd hc hcm
    go_wp2
    go_loop [5, 22] (fun s i => i = .int .i64 0 ∧ s = .int .u64 0) (fun _ _ => 0)
    case atStart => exact ⟨rfl, rfl⟩
    case round =>
      obtain ⟨rfl, rfl⟩ := hrel
      go_wp2
      go_ret
      exact ⟨rfl, HR1.out, HT1.out⟩
set_option maxRecDepth 100000 in
set_option maxHeartbeats 400000 in
theorem oct_Left {xs : List Byte} {base g k : Nat} {er : Int} {w : World} (h : Rdr w base g xs k er) (hl : xs.length ≤ 100000000000000) :
    Calls Tryd.prog 52 #[.pointer (some ⟨g, 0, none⟩)] w fun e w' => e = .returned (.int .i64 ((xs.length : Int) - (k : Int))) ∧ FB w w' := by
  have H := Lib.hid h
  have hle := h.le
  obtain ⟨A, c, HQ, hc, hcm, HR, HB⟩ := h.cellsF
  have hwr : IntKind.i64.wrap ((xs.length : Int) - (k : Int)) = (xs.length : Int) - (k : Int) := by rw [IntKind.wrap_i64]; omega
  clear h
  go_enter Tryd.func52, Tryd.ntmps52
  go_wp2_with fail
  refine (oct_made H.out).mono ?_
  rintro e w1 ⟨rfl, rfl⟩
  go_wp2_with fail
  obtain ⟨W0, hW0⟩ : ∃ W0 : World, W0 = w := ⟨_, rfl⟩
  subst hW0
  refine region_sch (E := FB) ((0, true) :: (1, true) :: (2, true) :: (3, true) :: (4, true) :: (5, true) :: (6, true) :: (7, true) :: (8, true) :: (9, true) :: (10, true) :: []) (by kernel_rfl) FB.refl fb_trans (fun _ _ d _ _ h => by cases d <;> exact h) (by kernel_rfl) ?_
  intro ops hops0
  have hops := Lib.hid hops0
  clear hops0
  have HF : FB W0 W0.drew := (FB.refl _).drew
  generalize W0.drew = wF at *
  repeat (refine sch_take (o := ?_) (v := ?_) (a' := ?_) (at_of hops.out ?_) ?_ (fun W hW => ?_) ?_ ?_; rotate_left 3; (focus (simp only [List.getElem?_toArray, List.getElem?_cons_zero, List.getElem?_cons_succ]; rfl)); (focus (rw [hops.out]; rfl)); (focus (obtain ⟨q0, q1, q2, q3, q4, q5⟩ := HQ.out W (HF.trans hW); go_simp; with_reducible rfl)); (focus (simp only [Act.put, List.setIfInBounds_toArray, List.set_cons_zero, List.set_cons_succ]; rfl)))
  refine sch_done ?_
  clear hops
  go_wp2
  go_ret
  exact ⟨rfl, HF⟩
/-- What End returns, and leaves. -/
def rend (xs : List Byte) (k : Nat) (er : Int) : Int := if er = 0 ∧ k < xs.length then 4 else er
/-! ### Upto, Block -/
def rupto (xs : List Byte) (k : Nat) (m : BitVec 64) : BitVec 64 × Nat × Int :=
  match rnum (xs.drop k) 0 0#64 with
  | .inl x => (0#64, k, x)
  | .inr (n, s) => if m < n then (0#64, k + s, 3) else (n, k + s, 0)
def rblk (xs : List Byte) (k : Nat) : List Byte × Nat × Int :=
  match rnum (xs.drop k) 0 0#64 with
  | .inl x => ([], k, x)
  | .inr (n, s) => if xs.length - k - s < n.toNat then ([], k, 5) else ((xs.drop (k + s)).take n.toNat, k + s + n.toNat, 0)
/-- An error of a number is one. -/
theorem rnum_err : ∀ (ys : List Byte) (i : Nat) (m : BitVec 64) (x : Int), rnum ys i m = .inl x → x = 4 ∨ x = 5
  | [], i, m, x, h => by cases h; exact .inr rfl
  | y :: ys, i, m, x, h => by
    rw [rnum] at h
    split at h
    · cases h; exact .inl rfl
    · split at h
      · cases h
      · exact rnum_err ys _ _ x h
theorem rnum_len : ∀ (ys : List Byte) (i : Nat) (m n : BitVec 64) (s : Nat), rnum ys i m = .inr (n, s) → i < s ∧ s ≤ i + ys.length
  | [], i, m, n, s, h => by cases h
  | y :: ys, i, m, n, s, h => by
    rw [rnum] at h
    split at h
    · cases h
    · split at h
      · cases h; simp
      · have := rnum_len ys _ _ n s h; simp; omega
/-! ### nil -/
set_option maxRecDepth 100000 in
set_option maxHeartbeats 400000 in
theorem oct_made_nil (w : World) : Calls Tryd.prog 70 #[.pointer none] w fun e w' => e = .returned (.bool false) ∧ w = w' := by
  go_enter Tryd.func70, Tryd.ntmps70
  go_wp2
  go_ret
  exact ⟨rfl, rfl⟩
set_option maxRecDepth 100000 in
set_option maxHeartbeats 400000 in
theorem oct_ready_nil (w : World) : Calls Tryd.prog 61 #[.pointer none] w fun e w' => e = .returned (.bool false) ∧ w = w' := by
  go_enter Tryd.func61, Tryd.ntmps61
  go_wp2_with fail
  refine (oct_made_nil _).mono ?_
  rintro e w1 ⟨rfl, rfl⟩
  go_wp2
  go_ret
  exact ⟨rfl, rfl⟩
end Go.Proofs.YtoidlmhebnlnbaaDoor
/- chain: what stands in memory while a chain is read; the iterator's own blocks. -/
set_option linter.unusedVariables false
set_option linter.unusedSimpArgs false
namespace Go.Proofs.YtoidlmhebnlnbaaDoor
open Go.ChangeShapes Go.WideShapes Go.ChangeAt Go.RowKit
attribute [local go_sem] nb_nonneg nb_lt8 nb_lt64
set_option maxRecDepth 100000

/-- The iterator's boxes: the pool, the page at hand, where the error goes, kind, most; the error; the pages seen. -/
structure ChIt (gm gp bp bh be bk bm er : Nat) (kind most head : Int) (seen : List Int) (code : Int) (W : World) : Prop where
  p : Boxed W bp 33 (.pointer (some ⟨gp, 0, none⟩))
  h : Boxed W bh 3 (.int .i64 head)
  e : Boxed W be 68 (.pointer (some ⟨er, 0, none⟩))
  k : Boxed W bk 3 (.int .i64 kind)
  m : Boxed W bm 3 (.int .i64 most)
  c : Boxed W er 23 (.int .i64 code)
  s : MapAt W gm (chMp seen)
section
variable {gm gp bp bh be bk bm er : Nat} {kind most head code : Int} {seen : List Int} {W W' : World} {I K : List Nat}
theorem ChIt.kp (h : ChIt gm gp bp bh be bk bm er kind most head seen code W) (hI : I = [gm, bp, bh, be, bk, bm, er]) (k : KP I W W') : ChIt gm gp bp bh be bk bm er kind most head seen code W' := by
  subst hI
  have q := fun b hb => k.2 b hb
  exact ⟨(q bp (by simp)).trans h.p, (q bh (by simp)).trans h.h, (q be (by simp)).trans h.e, (q bk (by simp)).trans h.k, (q bm (by simp)).trans h.m, (q er (by simp)).trans h.c, h.s.block (q gm (by simp))⟩
theorem ChIt.setH (h : ChIt gm gp bp bh be bk bm er kind most head seen code W) (hn : [gm, bp, bh, be, bk, bm, er].Nodup) (v : Int) : ChIt gm gp bp bh be bk bm er kind most v seen code (W.setCell ⟨bh, 0, none⟩ (.int .i64 v)) := by
  simp only [List.nodup_cons, List.mem_cons, List.not_mem_nil, or_false, not_or] at hn
  have q := fun b (hb : b ≠ bh) => heap_setCell_other W ⟨bh, 0, none⟩ b (.int .i64 v) hb
  obtain ⟨⟨n1, n2, n3, n4, n5, n6⟩, ⟨m2, m3, m4, m5, m6⟩, ⟨k3, k4, k5, k6⟩, -⟩ := hn
  exact ⟨(q bp m2).trans h.p, h.h.set _, (q be (Ne.symm k3)).trans h.e, (q bk (Ne.symm k4)).trans h.k, (q bm (Ne.symm k5)).trans h.m, (q er (Ne.symm k6)).trans h.c, h.s.block (q gm n2)⟩
theorem ChIt.setC (h : ChIt gm gp bp bh be bk bm er kind most head seen code W) (hn : [gm, bp, bh, be, bk, bm, er].Nodup) (v : Int) : ChIt gm gp bp bh be bk bm er kind most head seen v (W.setCell ⟨er, 0, none⟩ (.int .i64 v)) := by
  simp only [List.nodup_cons, List.mem_cons, List.not_mem_nil, or_false, not_or] at hn
  have q := fun b (hb : b ≠ er) => heap_setCell_other W ⟨er, 0, none⟩ b (.int .i64 v) hb
  obtain ⟨⟨n1, n2, n3, n4, n5, n6⟩, ⟨m2, m3, m4, m5, m6⟩, ⟨k3, k4, k5, k6⟩, ⟨l4, l5, l6⟩, ⟨o5, o6⟩, p6, -⟩ := hn
  exact ⟨(q bp m6).trans h.p, (q bh k6).trans h.h, (q be l6).trans h.e, (q bk o6).trans h.k, (q bm p6).trans h.m, h.c.set _, h.s.block (q gm n6)⟩
theorem ChIt.setS (h : ChIt gm gp bp bh be bk bm er kind most head seen code W) (hn : [gm, bp, bh, be, bk, bm, er].Nodup) {s' : List Int} (hm : MapAt W' gm (chMp s')) (t : TB gm W W') : ChIt gm gp bp bh be bk bm er kind most head s' code W' := by
  simp only [List.nodup_cons, List.mem_cons, List.not_mem_nil, or_false, not_or] at hn
  obtain ⟨⟨n1, n2, n3, n4, n5, n6⟩, -⟩ := hn
  have q := fun b (hb : gm ≠ b) (hl : b < W.heap.size) => t.out.block b hl (fun e => hb (by simpa using e.symm))
  exact ⟨(q bp n1 h.p.lt).trans h.p, (q bh n2 h.h.lt).trans h.h, (q be n3 h.e.lt).trans h.e, (q bk n4 h.k.lt).trans h.k, (q bm n5 h.m.lt).trans h.m, (q er n6 h.c.lt).trans h.c, hm⟩
theorem KP.fewer {K' : List Nat} (h : KP K W W') (hs : ∀ b ∈ K', b ∈ K) : KP K' W W' := ⟨h.1, fun b hb => h.2 b (hs b hb)⟩
theorem KP.tb {b : Nat} (t : TB b W W') (hb : b ∉ K) (hl : ∀ k ∈ K, k < W.heap.size) : KP K W W' := ⟨t.le, fun k hk => t.out.block k (hl k hk) (fun e => hb (by simp at e; exact e ▸ hk))⟩
end
section
variable {w0 w w' : World} {K : List Nat} {g n gp gf : Nat} {st : PlSt}
theorem PoA.kl (h : PoA w0 K g n gp gf st w) : ∀ b ∈ K, b < w.heap.size := by
  obtain ⟨⟨F, xs, h1, h2, h3, h4⟩, h5⟩ := h
  exact fun b hb => (h4 b hb).1
/-- Blocks of K are written. -/
theorem PoA.wr (h : PoA w0 K g n gp gf st w) (t : TS K w w') (h0 : ∀ k ∈ K, w0.heap.size ≤ k) : PoA w0 K g n gp gf st w' := by
  have := PoA.turns (I := []) (K := K) (K' := K) h ⟨t, fun _ h => h, fun _ h => .inl h, fun k hk => Nat.lt_of_lt_of_le (h.kl k hk) t.size⟩ h0
  exact this
end
/-- What is handed over: the page, where its bytes lie, and they. -/
structure ChX where
  pg : Int
  A : Option Addr
  c : Nat
  b : List Byte
def ChX.enc (x : ChX) : Array Value := #[.agg #[.int .i64 x.pg, .slice x.A x.b.length x.c]]
def ChX.pl (x : ChX) : Int × List Byte := (x.pg, x.b)
/-- What is known of it. -/
def ChXok (n : Nat) (pre : List ChX) (x : ChX) (K : List Nat) (W : World) : Prop := Rd W x.A x.b ∧ x.b.length ≤ 4074 ∧ x.b.length ≤ x.c ∧ x.c ≤ maxLen ∧ (∀ ad, x.A = some ad → ad.block ∉ K) ∧ pre.length < n / 8 ∧ ∀ y ∈ pre, y.b.length ≤ 4074
/-- The iterator's side as it begins. -/
def ChStart (w0 : World) (g n gp gf bp bh be bk bm er : Nat) (kind most head : Int) (st : PlSt) (K : List Nat) (W : World) : Prop :=
  PoA w0 ([bp, bh, be, bk, bm, er] ++ K) g n gp gf st W ∧ Boxed W bp 33 (.pointer (some ⟨gp, 0, none⟩)) ∧ Boxed W bh 3 (.int .i64 head) ∧ Boxed W be 68 (.pointer (some ⟨er, 0, none⟩)) ∧ Boxed W bk 3 (.int .i64 kind) ∧ Boxed W bm 3 (.int .i64 most) ∧ Boxed W er 23 (.int .i64 0) ∧
  (∀ b ∈ [bp, bh, be, bk, bm, er], b ∉ K) ∧ (∀ b ∈ [bp, bh, be, bk, bm, er] ++ K, w0.heap.size ≤ b)
/-- How much there is to read. -/
def chFuel (most : Int) : Nat := most.toNat + 1
/-- The iterator's side as it ends. -/
def ChDone (w0 : World) (g n gp gf er : Nat) (kind most head : Int) (st : PlSt) (xs : List ChX) (K : List Nat) (W : World) : Prop :=
  PoA w0 (er :: K) g n gp gf (chRd n kind most (chFuel most) 0 [] head st).2 W ∧ Boxed W er 23 (.int .i64 (chRd n kind most (chFuel most) 0 [] head st).1.2) ∧ xs.map ChX.pl = (chRd n kind most (chFuel most) 0 [] head st).1.1 ∧ er ∉ K
theorem plGet_inv {n : Nat} {st : PlSt} (h : PlInv n st) (k : Int) : PlInv n (plGet n st k).2 ∧ (plGetB n st k).length ≤ 4096 ∧ ((plGet n st k).1.2 = 0 → ¬ pgOut n k) := by
  by_cases ho : pgOut n k
  · have e := plGet_out (n := n) (st := st) ho
    refine ⟨by rw [e]; exact h, ?_, fun h0 => by rw [e] at h0; simp at h0⟩
    unfold plGetB; rw [e]; simp
  · obtain ⟨m, rfl⟩ : ∃ m : Nat, k = (m : Int) := ⟨k.toNat, by unfold pgOut at ho; omega⟩
    have hm : m < n / 8 := by unfold pgOut at ho; omega
    obtain ⟨h1, -, h3⟩ := plGet_ok h hm
    refine ⟨h1, ?_, fun _ => ho⟩
    rcases h3 with ⟨e, -⟩ | ⟨i, e1, e2, e3⟩
    · unfold plGetB; rw [e]; simp
    · have q := find_some e2
      unfold plGetB; rw [e1]
      exact Nat.le_of_eq (h1.len i q.2.1)
/-- What stands while a page is looked at. -/
structure ChM (w0 : World) (g n gp gf gm bp bh be bk bm er : Nat) (kind most head : Int) (seen : List Int) (code : Int) (st : PlSt) (K : List Nat) (J : World → Prop) (W : World) : Prop where
  po : PoA w0 ([gm, bp, bh, be, bk, bm, er] ++ K) g n gp gf st W
  it : ChIt gm gp bp bh be bk bm er kind most head seen code W
  j : J W
  dis : ∀ b ∈ [gm, bp, bh, be, bk, bm, er], b ∉ K
  ge : ∀ b ∈ [gm, bp, bh, be, bk, bm, er] ++ K, w0.heap.size ≤ b
  nd : [gm, bp, bh, be, bk, bm, er].Nodup
  st : ∀ W W', J W → KP K W W' → J W'
section
variable {w0 W W' : World} {g n gp gf gm bp bh be bk bm er : Nat} {kind most head code : Int} {seen : List Int} {st st' : PlSt} {K : List Nat} {J : World → Prop}
theorem ChM.step (h : ChM w0 g n gp gf gm bp bh be bk bm er kind most head seen code st K J W) (hp : PoA w0 ([gm, bp, bh, be, bk, bm, er] ++ K) g n gp gf st' W') (k : KP ([gm, bp, bh, be, bk, bm, er] ++ K) W W') : ChM w0 g n gp gf gm bp bh be bk bm er kind most head seen code st' K J W' :=
  ⟨hp, h.it.kp rfl (k.fewer fun b hb => List.mem_append_left _ hb), h.st _ _ h.j (k.fewer fun b hb => List.mem_append_right _ hb), h.dis, h.ge, h.nd, h.st⟩
theorem ChM.fb (h : ChM w0 g n gp gf gm bp bh be bk bm er kind most head seen code st K J W) (t : FB W W') : ChM w0 g n gp gf gm bp bh be bk bm er kind most head seen code st K J W' :=
  h.step (h.po.byFB t).1 (h.po.byFB t).2
theorem ChM.lt (h : ChM w0 g n gp gf gm bp bh be bk bm er kind most head seen code st K J W) : ∀ k ∈ K, k < W.heap.size := fun k hk => h.po.kl k (List.mem_append_right _ hk)
theorem ChM.wr (h : ChM w0 g n gp gf gm bp bh be bk bm er kind most head seen code st K J W) {b : Nat} (hb : b ∈ [gm, bp, bh, be, bk, bm, er]) (t : TB b W W') {head' code' : Int} {seen' : List Int} (hi : ChIt gm gp bp bh be bk bm er kind most head' seen' code' W') : ChM w0 g n gp gf gm bp bh be bk bm er kind most head' seen' code' st K J W' :=
  ⟨h.po.wr (TS.tb t (List.mem_append_left _ hb)) h.ge, hi, h.st _ _ h.j (KP.tb t (h.dis b hb) h.lt), h.dis, h.ge, h.nd, h.st⟩
theorem ChM.setC (h : ChM w0 g n gp gf gm bp bh be bk bm er kind most head seen code st K J W) (v : Int) : ChM w0 g n gp gf gm bp bh be bk bm er kind most head seen v st K J (W.setCell ⟨er, 0, none⟩ (.int .i64 v)) :=
  h.wr (b := er) (by simp) (TB.set W 0 _) (h.it.setC h.nd v)
theorem ChM.setH (h : ChM w0 g n gp gf gm bp bh be bk bm er kind most head seen code st K J W) (v : Int) : ChM w0 g n gp gf gm bp bh be bk bm er kind most v seen code st K J (W.setCell ⟨bh, 0, none⟩ (.int .i64 v)) :=
  h.wr (b := bh) (by simp) (TB.set W 0 _) (h.it.setH h.nd v)
theorem ChM.setS (h : ChM w0 g n gp gf gm bp bh be bk bm er kind most head seen code st K J W) {s' : List Int} (hm : MapAt W' gm (chMp s')) (t : TB gm W W') : ChM w0 g n gp gf gm bp bh be bk bm er kind most head s' code st K J W' :=
  h.wr (b := gm) (by simp) t (h.it.setS h.nd hm t)
/-- A round of the body. -/
theorem ChM.round {K' : List Nat} {J' : World → Prop} (h : ChM w0 g n gp gf gm bp bh be bk bm er kind most head seen code st K J W) (t : Turns K K' W W') (hj : J' W') (hst : ∀ W W', J' W → KP K' W W' → J' W') : ChM w0 g n gp gf gm bp bh be bk bm er kind most head seen code st K' J' W' := by
  have hn : ∀ b ∈ [gm, bp, bh, be, bk, bm, er], b ∉ K' := fun b hb hm => by
    rcases t.new b hm with h1 | h1
    · exact h.dis b hb h1
    · have := h.po.kl b (List.mem_append_left _ hb); omega
  have hg : ∀ b ∈ K', w0.heap.size ≤ b := fun b hm => by
    rcases t.new b hm with h1 | h1
    · exact h.ge b (List.mem_append_right _ h1)
    · exact Nat.le_trans h.po.fb.le h1
  refine ⟨h.po.turns t (fun k hk => h.ge k (List.mem_append_right _ hk)), h.it.kp rfl ⟨t.ts.size, fun b hb => t.ts.block b (h.po.kl b (List.mem_append_left _ hb)) (h.dis b hb)⟩, hj, hn, fun b hb => ?_, h.nd, hst⟩
  rcases List.mem_append.1 hb with h1 | h1
  · exact h.ge b (List.mem_append_left _ h1)
  · exact hg b h1
end
end Go.Proofs.YtoidlmhebnlnbaaDoor
