/- Walks and laws that the claim's last text stands on, several texts in one file: CrcT, OctP, XhP, PgP, CrcW, Kit, OctA, OctB. Under the hypotheses that each theorem states. -/
import Derived.Deep.WholeRow
import Derived.Lib.SliceRun
import Derived.Lib.AppendZeros
import Derived.Test.YtihljjfnjclefaaDoorMPageDiska
import Derived.Test.YtihljjfnjclefaaDoorMPageDiskb
/- Checksums, in plain Lean: xor goes through, a step can be undone. -/
set_option linter.unusedVariables false
set_option linter.unusedSimpArgs false
namespace Go.Proofs.YtihljjfnjclefaaDoor

theorem and_one_iff (x : BitVec 32) : x &&& 1#32 = 1#32 ↔ x.getLsbD 0 = true := by
  constructor
  · intro h
    have := congrArg (fun v : BitVec 32 => v.getLsbD 0) h
    simpa using this
  · intro h
    apply BitVec.eq_of_getLsbD_eq
    intro i hi
    by_cases h0 : i = 0
    · subst h0; simp [h]
    · simp [BitVec.getLsbD_one, h0]
theorem crcBit_eq (x : BitVec 32) : crcBit x = (x >>> 1) ^^^ (if x.getLsbD 0 then 0x82f63b78#32 else 0#32) := by
  unfold crcBit
  by_cases h : x.getLsbD 0 = true
  · rw [if_pos ((and_one_iff x).2 h), if_pos h]
  · rw [if_neg (fun e => h ((and_one_iff x).1 e)), if_neg h, BitVec.xor_zero]
theorem crcBit_xor (x y : BitVec 32) : crcBit (x ^^^ y) = crcBit x ^^^ crcBit y := by
  rw [crcBit_eq, crcBit_eq, crcBit_eq]
  apply BitVec.eq_of_getLsbD_eq
  intro i hi
  simp only [BitVec.getLsbD_xor, BitVec.getLsbD_ushiftRight]
  cases x.getLsbD 0 <;> cases y.getLsbD 0 <;> simp
  · cases x.getLsbD (1 + i) <;> cases y.getLsbD (1 + i) <;> simp
  · cases x.getLsbD (1 + i) <;> cases y.getLsbD (1 + i) <;> simp
theorem crcBits_xor (n : Nat) (x y : BitVec 32) : crcBits n (x ^^^ y) = crcBits n x ^^^ crcBits n y := by
  induction n with
  | zero => rfl
  | succ n ih => simp only [crcBits, ih, crcBit_xor]
theorem crcBit_zero : crcBit 0#32 = 0#32 := by decide
theorem crcBits_zero (n : Nat) : crcBits n 0#32 = 0#32 := by
  induction n with
  | zero => rfl
  | succ n ih => simp only [crcBits, ih, crcBit_zero]
theorem crcBit_inj {x : BitVec 32} (h : crcBit x = 0#32) : x = 0#32 := by
  rw [crcBit_eq] at h
  by_cases h0 : x.getLsbD 0 = true
  · rw [if_pos h0] at h
    have := congrArg (fun v : BitVec 32 => v.getLsbD 31) h
    simp at this
  · rw [if_neg h0, BitVec.xor_zero] at h
    apply BitVec.eq_of_getLsbD_eq
    intro i hi
    cases i with
    | zero => simpa using h0
    | succ i =>
      have := congrArg (fun v : BitVec 32 => v.getLsbD i) h
      simp only [BitVec.getLsbD_ushiftRight] at this
      rw [Nat.add_comm] at this
      simpa using this
theorem crcBits_inj {n : Nat} {x : BitVec 32} (h : crcBits n x = 0#32) : x = 0#32 := by
  induction n with
  | zero => exact h
  | succ n ih => exact ih (crcBit_inj h)
theorem xor_eq_zero {n : Nat} {x y : BitVec n} : x ^^^ y = 0#n ↔ x = y := by
  constructor
  · intro h
    have : (x ^^^ y) ^^^ y = 0#n ^^^ y := by rw [h]
    rwa [BitVec.xor_assoc, BitVec.xor_self, BitVec.xor_zero, BitVec.zero_xor] at this
  · rintro rfl; exact BitVec.xor_self
theorem crcBits_eq {n : Nat} {x y : BitVec 32} : crcBits n x = crcBits n y ↔ x = y := by
  rw [← xor_eq_zero, ← crcBits_xor]
  constructor
  · intro h; exact xor_eq_zero.1 (crcBits_inj h)
  · rintro rfl; rw [BitVec.xor_self]; exact crcBits_zero n
theorem crcBits_low {n : Nat} {x : BitVec 32} (h : ∀ i, i < n → x.getLsbD i = false) : crcBits n x = x >>> n := by
  induction n with
  | zero => simp [crcBits]
  | succ n ih =>
    rw [crcBits, ih (fun i hi => h i (by omega)), crcBit_eq]
    have h0 : (x >>> n).getLsbD 0 = false := by simpa using h n (by omega)
    rw [if_neg (by rw [h0]; simp), BitVec.xor_zero, BitVec.shiftRight_add]
theorem crcBits_add (m n : Nat) (x : BitVec 32) : crcBits (m + n) x = crcBits m (crcBits n x) := by
  induction m with
  | zero => simp [crcBits]
  | succ m ih => rw [show m + 1 + n = (m + n) + 1 from by omega, crcBits, ih, crcBits]
theorem crcT_eq (b : Byte) : crcT b = crcBits 8 (b.setWidth 32) := by
  unfold crcT crcWord
  congr 1
  apply BitVec.eq_of_toNat_eq
  simp
theorem crcT_xor (a b : Byte) : crcT (a ^^^ b) = crcT a ^^^ crcT b := by
  rw [crcT_eq, crcT_eq, crcT_eq, ← crcBits_xor, BitVec.setWidth_xor]
theorem crcStep_eq (s : BitVec 32) (b : Byte) : crcStep crcT s b = crcBits 8 (s ^^^ b.setWidth 32) := by
  have hs : s ^^^ b.setWidth 32 = (s.setWidth 8 ^^^ b).setWidth 32 ^^^ (s ^^^ (s.setWidth 8).setWidth 32) := by
    rw [BitVec.setWidth_xor]
    apply BitVec.eq_of_getLsbD_eq
    intro i hi
    simp only [BitVec.getLsbD_xor]
    cases s.getLsbD i <;> cases (BitVec.setWidth 32 b).getLsbD i <;> cases (BitVec.setWidth 32 (BitVec.setWidth 8 s)).getLsbD i <;> rfl
  rw [hs, crcBits_xor, ← crcT_eq, crcStep]
  congr 1
  rw [crcBits_low]
  · apply BitVec.eq_of_getLsbD_eq
    intro i hi
    simp only [BitVec.getLsbD_ushiftRight, BitVec.getLsbD_xor, BitVec.getLsbD_setWidth]
    have : decide (8 + i < 8) = false := by simp
    simp [this]
  · intro i hi
    simp only [BitVec.getLsbD_xor, BitVec.getLsbD_setWidth]
    have h32 : i < 32 := by omega
    simp [hi, h32]
theorem crcStep_byte (s : BitVec 32) (a b : Byte) : crcStep crcT s a = crcStep crcT s b ↔ a = b := by
  rw [crcStep_eq, crcStep_eq, crcBits_eq]
  constructor
  · intro h
    have h2 : a.setWidth 32 = b.setWidth 32 := by
      have : s ^^^ (s ^^^ a.setWidth 32) = s ^^^ (s ^^^ b.setWidth 32) := by rw [h]
      rwa [← BitVec.xor_assoc, ← BitVec.xor_assoc, BitVec.xor_self, BitVec.zero_xor, BitVec.zero_xor] at this
    have h3 := congrArg (fun v : BitVec 32 => v.setWidth 8) h2
    simpa using h3
  · rintro rfl; rfl
theorem crcStep_state (x y : BitVec 32) (a : Byte) : crcStep crcT x a = crcStep crcT y a ↔ x = y := by
  rw [crcStep_eq, crcStep_eq, crcBits_eq]
  constructor
  · intro h
    have : (x ^^^ a.setWidth 32) ^^^ a.setWidth 32 = (y ^^^ a.setWidth 32) ^^^ a.setWidth 32 := by rw [h]
    rwa [BitVec.xor_assoc, BitVec.xor_assoc, BitVec.xor_self, BitVec.xor_zero, BitVec.xor_zero] at this
  · rintro rfl; rfl
theorem crcStep_xor (s s' : BitVec 32) (a b : Byte) : crcStep crcT (s ^^^ s') (a ^^^ b) = crcStep crcT s a ^^^ crcStep crcT s' b := by
  rw [crcStep_eq, crcStep_eq, crcStep_eq, ← crcBits_xor, BitVec.setWidth_xor]
  congr 1
  apply BitVec.eq_of_getLsbD_eq
  intro i hi
  simp only [BitVec.getLsbD_xor]
  cases s.getLsbD i <;> cases s'.getLsbD i <;> cases (BitVec.setWidth 32 a).getLsbD i <;> cases (BitVec.setWidth 32 b).getLsbD i <;> rfl
theorem crcOn_nil (t : Byte → BitVec 32) (x : BitVec 32) : crcOn t x [] = x := by simp [crcOn]
theorem crcOn_append (t : Byte → BitVec 32) (x : BitVec 32) (a b : List Byte) : crcOn t (crcOn t x a) b = crcOn t x (a ++ b) := by simp [crcOn, List.foldl_append]

/-- Byte by byte. -/
def xors (a b : List Byte) : List Byte := List.zipWith (· ^^^ ·) a b
theorem fold_xors (a b : List Byte) : ∀ (s s' : BitVec 32), a.length = b.length → (xors a b).foldl (crcStep crcT) (s ^^^ s') = a.foldl (crcStep crcT) s ^^^ b.foldl (crcStep crcT) s' := by
  induction a generalizing b with
  | nil => intro s s' h; cases b with
    | nil => rfl
    | cons y b => simp at h
  | cons x a ih => intro s s' h; cases b with
    | nil => simp at h
    | cons y b =>
      simp only [xors, List.zipWith_cons_cons, List.foldl_cons, crcStep_xor]
      exact ih b _ _ (by simpa using h)
theorem crcSum_three (a b c : List Byte) (h1 : a.length = b.length) (h2 : b.length = c.length) : crcSum (xors (xors a b) c) = crcSum a ^^^ crcSum b ^^^ crcSum c := by
  have hx : (xors a b).length = c.length := by simp [xors, h1, h2]
  have e : (~~~ 0#32 : BitVec 32) = (~~~ 0#32 ^^^ ~~~ 0#32) ^^^ ~~~ 0#32 := by decide
  unfold crcSum crcOn
  rw [e, fold_xors _ c _ _ hx, fold_xors a b _ _ h1]
  apply BitVec.eq_of_getLsbD_eq
  intro i hi
  simp only [BitVec.getLsbD_xor, BitVec.getLsbD_not, hi, decide_true, Bool.true_and]
  rw [← e]
  cases (List.foldl (crcStep crcT) (~~~0#32) a).getLsbD i <;> cases (List.foldl (crcStep crcT) (~~~0#32) b).getLsbD i <;> cases (List.foldl (crcStep crcT) (~~~0#32) c).getLsbD i <;> rfl
theorem crcSum_eq (a y : List Byte) (h : y.length = a.length) : crcSum y = crcSum a ↔ (xors y a).foldl (crcStep crcT) 0#32 = 0#32 := by
  have e : (0#32 : BitVec 32) = ~~~ 0#32 ^^^ ~~~ 0#32 := by decide
  conv => rhs; lhs; rw [e]
  rw [fold_xors y a _ _ h, xor_eq_zero]
  unfold crcSum crcOn
  constructor
  · intro h'; have := congrArg (fun v : BitVec 32 => ~~~ v) h'; simpa using this
  · intro h'; rw [h']
theorem fold_zeros (r : Nat) (s : BitVec 32) : (List.replicate r 0#8).foldl (crcStep crcT) s = 0#32 ↔ s = 0#32 := by
  induction r generalizing s with
  | zero => simp
  | succ r ih =>
    rw [List.replicate_succ, List.foldl_cons, ih, show (0#32 : BitVec 32) = crcStep crcT 0#32 0#8 from by decide +kernel, crcStep_state]
    rw [show crcStep crcT 0#32 0#8 = 0#32 from by decide +kernel]
/-- Up to four bytes as one word. -/
def pack : List Byte → BitVec 32
  | [] => 0#32
  | d :: ds => d.setWidth 32 ^^^ (pack ds <<< 8)
theorem pack_high (ds : List Byte) (i : Nat) (h : 8 * ds.length ≤ i) : (pack ds).getLsbD i = false := by
  induction ds generalizing i with
  | nil => simp [pack]
  | cons d ds ih =>
    simp only [List.length_cons] at h
    simp only [pack, BitVec.getLsbD_xor, BitVec.getLsbD_shiftLeft, BitVec.getLsbD_setWidth]
    rw [ih (i - 8) (by omega), BitVec.getLsbD_of_ge d i (by omega)]
    simp
theorem fold_pack (ds : List Byte) (h : ds.length ≤ 4) : ∀ s : BitVec 32, ds.foldl (crcStep crcT) s = crcBits (8 * ds.length) (s ^^^ pack ds) := by
  induction ds with
  | nil => intro s; simp [pack, crcBits]
  | cons d ds ih =>
    intro s
    simp only [List.length_cons] at h
    rw [List.foldl_cons, ih (by omega), crcStep_eq, List.length_cons, show 8 * (ds.length + 1) = 8 * ds.length + 8 from by omega, crcBits_add]
    congr 1
    rw [pack, ← BitVec.xor_assoc, crcBits_xor 8 (s ^^^ d.setWidth 32)]
    congr 1
    rw [crcBits_low]
    · apply BitVec.eq_of_getLsbD_eq
      intro i hi
      simp only [BitVec.getLsbD_ushiftRight, BitVec.getLsbD_shiftLeft]
      by_cases hb : 8 + i < 32
      · simp [hb]
      · simp [hb, pack_high ds i (by omega)]
    · intro i hi
      simp only [BitVec.getLsbD_shiftLeft]
      simp [hi]
theorem pack_zero (ds : List Byte) (h : ds.length ≤ 4) : pack ds = 0#32 ↔ ∀ d ∈ ds, d = 0#8 := by
  induction ds with
  | nil => simp [pack]
  | cons d ds ih =>
    simp only [List.length_cons] at h
    have ih' := ih (by omega)
    simp only [List.mem_cons, forall_eq_or_imp]
    rw [← ih', pack]
    constructor
    · intro e
      have hb : ∀ i, i < 32 → (d.setWidth 32 ^^^ (pack ds <<< 8)).getLsbD i = false := fun i _ => by rw [e]; simp
      refine ⟨BitVec.eq_of_getLsbD_eq fun i hi => ?_, BitVec.eq_of_getLsbD_eq fun i hi => ?_⟩
      · have := hb i (by omega)
        simp only [BitVec.getLsbD_xor, BitVec.getLsbD_shiftLeft, BitVec.getLsbD_setWidth] at this
        have h32 : i < 32 := by omega
        simpa [hi, h32] using this
      · by_cases hl : i + 8 < 32
        · have := hb (i + 8) hl
          simp only [BitVec.getLsbD_xor, BitVec.getLsbD_shiftLeft, BitVec.getLsbD_setWidth] at this
          rw [BitVec.getLsbD_of_ge d (i + 8) (by omega)] at this
          simpa [hl] using this
        · rw [pack_high ds i (by omega)]; simp
    · rintro ⟨rfl, h2⟩
      rw [h2]; decide
/-- A change of up to four bytes somewhere: the sums are one just where nothing has changed. -/
theorem fold_change (k r : Nat) (ds : List Byte) (h : ds.length ≤ 4) : (List.replicate k 0#8 ++ ds ++ List.replicate r 0#8).foldl (crcStep crcT) 0#32 = 0#32 ↔ ∀ d ∈ ds, d = 0#8 := by
  rw [List.foldl_append, fold_zeros, List.foldl_append, (fold_zeros k 0#32).2 rfl, fold_pack ds h, BitVec.zero_xor, ← pack_zero ds h]
  constructor
  · intro e; exact crcBits_inj e
  · intro e; rw [e]; exact crcBits_zero _

end Go.Proofs.YtihljjfnjclefaaDoor
/- Numbers and words as bytes, in plain Lean. No program in sight. -/
set_option linter.unusedVariables false
set_option linter.unusedSimpArgs false
namespace Go.Proofs.YtihljjfnjclefaaDoor

/-- A number's bytes: seven bits each, the lowest first. -/
def onum (n : BitVec 64) : List Byte :=
  if h : 128#64 ≤ n then (n.setWidth 8 ||| 128#8) :: onum (n >>> 7) else [n.setWidth 8]
termination_by n.toNat
decreasing_by
  have : 128 ≤ n.toNat := by simpa [BitVec.le_def] using h
  rw [BitVec.toNat_ushiftRight, Nat.shiftRight_eq_div_pow]
  omega
theorem onum_ge {n : BitVec 64} (h : 128#64 ≤ n) : onum n = (n.setWidth 8 ||| 128#8) :: onum (n >>> 7) := by
  conv => lhs; unfold onum
  rw [dif_pos h]
theorem onum_lt {n : BitVec 64} (h : ¬ 128#64 ≤ n) : onum n = [n.setWidth 8] := by
  conv => lhs; unfold onum
  rw [dif_neg h]
theorem onum_len_pos (n : BitVec 64) : 1 ≤ (onum n).length := by
  by_cases h : 128#64 ≤ n
  · rw [onum_ge h]; simp
  · rw [onum_lt h]; simp
theorem onum_len (k : Nat) (n : BitVec 64) (h : n.toNat < 2 ^ (7 * (k + 1))) : (onum n).length ≤ k + 1 := by
  induction k generalizing n with
  | zero => rw [onum_lt (by simp [BitVec.le_def]; omega)]; simp
  | succ k ih =>
    by_cases hn : 128#64 ≤ n
    · rw [onum_ge hn]
      have := ih (n >>> 7) (by
        rw [BitVec.toNat_ushiftRight, Nat.shiftRight_eq_div_pow]
        apply Nat.div_lt_of_lt_mul
        rw [← Nat.pow_add]
        exact Nat.lt_of_lt_of_eq h (by congr 1; omega))
      simp; omega
    · rw [onum_lt hn]; simp
theorem onum_len10 (n : BitVec 64) : (onum n).length ≤ 10 := onum_len 9 n (Nat.lt_of_lt_of_le n.isLt (Nat.pow_le_pow_right (by omega) (by omega)))
/-- A word's lowest bytes, the lowest first. -/
def oword : Nat → BitVec 64 → List Byte
  | 0, _ => []
  | k + 1, n => n.setWidth 8 :: oword k (n >>> 8)
theorem oword_len (k : Nat) (n : BitVec 64) : (oword k n).length = k := by
  induction k generalizing n with
  | zero => rfl
  | succ k ih => simp [oword, ih]
theorem oword_succ (k : Nat) (n : BitVec 64) : oword (k + 1) n = oword k n ++ [(n >>> (8 * k)).setWidth 8] := by
  induction k generalizing n with
  | zero => simp [oword]
  | succ k ih =>
    rw [oword, ih, oword, List.cons_append]
    congr 3
    rw [show 8 * (k + 1) = 8 + 8 * k by omega, BitVec.shiftRight_add]
/-- What Word lays down. -/
def owordZ (z : Int) (n : BitVec 64) : List Byte := if z = 2 then oword 2 n else if z = 4 then oword 4 n else if z = 8 then oword 8 n else []
def oblock (x : List Byte) : List Byte := onum (BitVec.ofNat 64 x.length) ++ x

/-- The count of bytes that a slice's length is. -/
theorem len64 (n : Nat) (h : n ≤ 9223372036854775807) : nb (BitVec.ofNat 64 n) = (n : Int) := nb_ofNat n (by omega)

end Go.Proofs.YtihljjfnjclefaaDoor
/- The hash, in plain Lean. No program in sight. -/
set_option linter.unusedVariables false
set_option linter.unusedSimpArgs false
namespace Go.Proofs.YtihljjfnjclefaaDoor

def P1 : BitVec 64 := 11400714785074694791#64
def P2 : BitVec 64 := 14029467366897019727#64
def P3 : BitVec 64 := 1609587929392839161#64
def P4 : BitVec 64 := 9650029242287828579#64
def P5 : BitVec 64 := 2870177450012600261#64
/-- A word turned left. -/
def xrot (x : BitVec 64) (n : Nat) : BitVec 64 := x <<< n ||| x >>> (64 - n)
def xround (a w : BitVec 64) : BitVec 64 := xrot (a + w * 14029467366897019727#64) 31 * 11400714785074694791#64
def xmerge (h a : BitVec 64) : BitVec 64 := (h ^^^ xround 0#64 a) * 11400714785074694791#64 + 9650029242287828579#64
def xaval1 (h : BitVec 64) : BitVec 64 := (h ^^^ h >>> 33) * 14029467366897019727#64
def xaval2 (h : BitVec 64) : BitVec 64 := (h ^^^ h >>> 29) * 1609587929392839161#64
def xaval (h : BitVec 64) : BitVec 64 := xaval2 (xaval1 h) ^^^ (xaval2 (xaval1 h)) >>> 32
/-- The first bytes as a word, the lowest first. -/
def xword : List Byte → BitVec 64
  | [] => 0#64
  | b :: bs => b.setWidth 64 ||| (xword bs) <<< 8
def xlane (a : BitVec 64) (xs : List Byte) : BitVec 64 := xround a (xword (xs.take 8))
/-- So many bits as may be. -/
def xclip (n : Int) : Nat := (min 64 (max 0 n)).toNat
def xlow (h : BitVec 64) (n : Nat) : BitVec 64 := h &&& ~~~ (18446744073709551615#64 <<< n)
def xhigh (h : BitVec 64) (n : Nat) : BitVec 64 := h >>> (64 - n)

/-- The four lanes, of which the first j have taken their word. -/
def xpart (l : List (BitVec 64)) (ys : List Byte) : Nat → List (BitVec 64)
  | 0 => l
  | j + 1 => (xpart l ys j).set j (xround ((xpart l ys j).getD j 0#64) (xword ((ys.drop (8 * j)).take 8)))
theorem xpart_len (l : List (BitVec 64)) (ys : List Byte) (j : Nat) : (xpart l ys j).length = l.length := by
  induction j with
  | zero => rfl
  | succ j ih => simp [xpart, ih]
def xstart (s : BitVec 64) : List (BitVec 64) := [s + 11400714785074694791#64 + 14029467366897019727#64, s + 14029467366897019727#64, s, s - 11400714785074694791#64]
def xlanes (l : List (BitVec 64)) : BitVec 64 := xrot (l.getD 0 0#64) 1 + xrot (l.getD 1 0#64) 7 + xrot (l.getD 2 0#64) 12 + xrot (l.getD 3 0#64) 18
def xout (l : List (BitVec 64)) : BitVec 64 := l.foldl xmerge (xlanes l)
def xstep8 (h w : BitVec 64) : BitVec 64 := xrot (h ^^^ xround 0#64 w) 27 * 11400714785074694791#64 + 9650029242287828579#64
def xstep4 (h w : BitVec 64) : BitVec 64 := xrot (h ^^^ w * 11400714785074694791#64) 23 * 14029467366897019727#64 + 1609587929392839161#64
def xstep1 (h : BitVec 64) (c : Byte) : BitVec 64 := xrot (h ^^^ c.setWidth 64 * 2870177450012600261#64) 11 * 11400714785074694791#64
def x1s (h : BitVec 64) (xs : List Byte) : BitVec 64 := xs.foldl xstep1 h
def x4s (h : BitVec 64) (xs : List Byte) : BitVec 64 := if 4 ≤ xs.length then x1s (xstep4 h (xword (xs.take 4))) (xs.drop 4) else x1s h xs
def x8s (h : BitVec 64) (xs : List Byte) : BitVec 64 :=
  if 8 ≤ xs.length then x8s (xstep8 h (xword (xs.take 8))) (xs.drop 8) else x4s h xs
termination_by xs.length
decreasing_by simp; omega
def x32s (l : List (BitVec 64)) (n : BitVec 64) (xs : List Byte) : BitVec 64 :=
  if 32 ≤ xs.length then x32s (xpart l xs 4) n (xs.drop 32) else xaval (x8s (xout l + n) xs)
termination_by xs.length
decreasing_by simp; omega
theorem x8s_ge {h : BitVec 64} {xs : List Byte} (hx : 8 ≤ xs.length) : x8s h xs = x8s (xstep8 h (xword (xs.take 8))) (xs.drop 8) := by
  conv => lhs; unfold x8s
  rw [if_pos hx]
theorem x8s_lt {h : BitVec 64} {xs : List Byte} (hx : ¬ 8 ≤ xs.length) : x8s h xs = x4s h xs := by
  conv => lhs; unfold x8s
  rw [if_neg hx]
theorem x32s_ge {l : List (BitVec 64)} {n : BitVec 64} {xs : List Byte} (hx : 32 ≤ xs.length) : x32s l n xs = x32s (xpart l xs 4) n (xs.drop 32) := by
  conv => lhs; unfold x32s
  rw [if_pos hx]
theorem x32s_lt {l : List (BitVec 64)} {n : BitVec 64} {xs : List Byte} (hx : ¬ 32 ≤ xs.length) : x32s l n xs = xaval (x8s (xout l + n) xs) := by
  conv => lhs; unfold x32s
  rw [if_neg hx]
/-- The hash of bytes. -/
def xsum (s : BitVec 64) (xs : List Byte) : BitVec 64 :=
  if 32 ≤ xs.length then x32s (xstart s) (BitVec.ofNat 64 xs.length) xs else xaval (x8s (s + 2870177450012600261#64 + BitVec.ofNat 64 xs.length) xs)

/-! ### the number of a word that is shifted -/
theorem wrap_shl (x : BitVec 64) (k : Nat) : IntKind.u64.wrap (nb x * 2 ^ k) = nb (x <<< k) := by
  rw [wrap_u64]; unfold nb; rw [BitVec.toNat_shiftLeft, Nat.shiftLeft_eq]
  rw [Int.natCast_emod, Int.natCast_mul]; simp
theorem nb_shrk {n : Nat} (x : BitVec n) (k : Nat) : nb x / 2 ^ k = nb (x >>> k) := by
  have := nb_shr x k
  rw [← this]; simp
theorem sub64 (k : Nat) (h : k ≤ 64) : ((64 : Int) - k).toNat = 64 - k := by omega
theorem and63 (k : Nat) (h : k < 64) : bits .and .u64 (k : Int) 63 = k := by
  have := bits_and64 (BitVec.ofNat 64 k) 63#64 (Nat.le_refl _) (Nat.le_refl _)
  rw [nb_ofNat _ (by omega), nb_ofNat _ (by omega)] at this
  rw [show ((63 : Int)) = ((63 : Nat) : Int) from rfl, this]
  unfold nb
  simp
  rw [show (63 : Nat) = 2 ^ 6 - 1 from rfl, Nat.and_two_pow_sub_one_eq_mod]
  omega


theorem or_add8 (b : Byte) (y : BitVec 64) : b.setWidth 64 ||| y <<< 8 = b.setWidth 64 + y <<< 8 := by
  rw [BitVec.add_eq_or_of_and_eq_zero]
  ext i hi
  by_cases h8 : i < 8
  · simp [h8]
  · simp [BitVec.getLsbD_of_ge b i (by omega)]
theorem shl_add (a b : BitVec 64) (k : Nat) : (a + b) <<< k = a <<< k + b <<< k := by
  rw [BitVec.shiftLeft_eq_mul_twoPow, BitVec.shiftLeft_eq_mul_twoPow, BitVec.shiftLeft_eq_mul_twoPow, BitVec.add_mul]
theorem xword_add (xs : List Byte) (b : Byte) : xword (xs ++ [b]) = xword xs + (b.setWidth 64) <<< (8 * xs.length) := by
  induction xs with
  | nil => simp [xword]
  | cons x xs ih =>
    rw [List.cons_append, xword, ih, xword, or_add8, or_add8, shl_add, ← BitVec.add_assoc]
    congr 1
    rw [List.length_cons, show 8 * (xs.length + 1) = 8 * xs.length + 8 by omega, BitVec.shiftLeft_add]
end Go.Proofs.YtihljjfnjclefaaDoor
/- page, plain: the bytes of a page; reading them; a byte that is changed. -/
set_option linter.unusedVariables false
set_option linter.unusedSimpArgs false
namespace Go.Proofs.YtihljjfnjclefaaDoor

theorem pg_xword_bit (q : Nat) : ∀ (n : BitVec 64), 8 * q ≤ 64 → ∀ j, (xword (oword q n)).getLsbD j = (decide (j < 8 * q) && n.getLsbD j) := by
  induction q with
  | zero => intro n h j; simp [oword, xword]
  | succ q ih =>
    intro n h j
    rw [oword, xword]
    simp only [BitVec.getLsbD_or, BitVec.getLsbD_setWidth, BitVec.getLsbD_shiftLeft, ih (n >>> 8) (by omega), BitVec.getLsbD_ushiftRight]
    by_cases h8 : j < 8
    · simp [h8, show j < 64 by omega, show j < 8 * (q + 1) by omega]
    · rcases Nat.lt_or_ge j 64 with h64 | h64
      · rw [show 8 + (j - 8) = j by omega]
        by_cases hq : j < 8 * (q + 1)
        · simp [h8, h64, hq, show j - 8 < 8 * q by omega]
        · simp [h8, h64, hq, show ¬ j - 8 < 8 * q by omega]
      · rw [BitVec.getLsbD_of_ge n j h64]
        simp [h8, show ¬ j < 64 by omega]
/-- A word that was written is read: modulo what its bytes hold. -/
theorem pg_xword (q : Nat) (n : BitVec 64) (h : 8 * q ≤ 64) : (xword (oword q n)).toNat = n.toNat % 2 ^ (8 * q) := by
  have e : xword (oword q n) = (n.setWidth (8 * q)).setWidth 64 := by
    apply BitVec.eq_of_getLsbD_eq
    intro j hj
    rw [pg_xword_bit q n h, BitVec.getLsbD_setWidth, BitVec.getLsbD_setWidth]
    simp [hj]
  rw [e, BitVec.toNat_setWidth, BitVec.toNat_setWidth]
  refine Nat.mod_eq_of_lt (Nat.lt_of_lt_of_le (Nat.mod_lt _ (Nat.two_pow_pos _)) (Nat.pow_le_pow_right (by omega) h))
def z4 : List Byte := [0#8, 0#8, 0#8, 0#8]
def pgHd (k : Byte) (n : BitVec 32) : List Byte := [0x54#8, 0x4d#8, 1#8, k] ++ oword 4 (n.setWidth 64) ++ z4
def pgPad (x : List Byte) : List Byte := x ++ List.replicate (4080 - x.length) 0#8
def pgSum (k : Byte) (n : BitVec 32) (x : List Byte) : BitVec 32 := crcSum (pgHd k n ++ (z4 ++ pgPad x))
def pgBytes (k : Byte) (n : BitVec 32) (x : List Byte) : List Byte := pgHd k n ++ (oword 4 ((pgSum k n x).setWidth 64) ++ pgPad x)
def pgOk (K : Int) (x : List Byte) : Bool := decide (1 ≤ K) && decide (K ≤ 7) && decide (x.length ≤ 4080)
theorem pgOk_iff {K : Int} {x : List Byte} : pgOk K x = true ↔ 1 ≤ K ∧ K ≤ 7 ∧ x.length ≤ 4080 := by
  unfold pgOk
  simp only [Bool.and_eq_true, decide_eq_true_eq]
  exact ⟨fun h => ⟨h.1.1, h.1.2, h.2⟩, fun h => ⟨⟨h.1, h.2.1⟩, h.2.2⟩⟩
def pgB (K : Int) (n : BitVec 32) (x : List Byte) : List Byte × Int := if pgOk K x then (pgBytes (BitVec.ofInt 8 K) n x, 0) else ([], 2)
def pgKd (b : List Byte) : Int := nb (b.getD 3 0#8)
def pgNm (b : List Byte) : BitVec 32 := (xword ((b.drop 4).take 4)).setWidth 32
def pgR (b : List Byte) : (Int × BitVec 32 × List Byte) × Int :=
  if b.length = 4096 ∧ pgB (pgKd b) (pgNm b) (b.drop 16) = (b, 0) then ((pgKd b, pgNm b, b.drop 16), 0) else ((0, 0#32, []), 4)

theorem pgHd_len (k : Byte) (n : BitVec 32) : (pgHd k n).length = 12 := by simp [pgHd, oword_len, z4]
theorem pgPad_len {x : List Byte} (h : x.length ≤ 4080) : (pgPad x).length = 4080 := by simp [pgPad]; omega
theorem pgPad_pad {x : List Byte} (h : x.length = 4080) : pgPad x = x := by simp [pgPad, h]
theorem pgBytes_len (k : Byte) (n : BitVec 32) {x : List Byte} (h : x.length ≤ 4080) : (pgBytes k n x).length = 4096 := by
  simp [pgBytes, pgHd_len, oword_len, pgPad_len h]
theorem pgBytes_pad (k : Byte) (n : BitVec 32) {x : List Byte} (h : x.length ≤ 4080) : pgBytes k n (pgPad x) = pgBytes k n x := by
  have e := pgPad_pad (pgPad_len h)
  unfold pgBytes pgSum
  rw [e]
theorem pgBytes_take (k : Byte) (n : BitVec 32) (x : List Byte) : (pgBytes k n x).take 12 = pgHd k n := by
  unfold pgBytes; rw [List.take_append_of_le_length (by rw [pgHd_len]; omega), List.take_of_length_le (by rw [pgHd_len]; omega)]
theorem pgBytes_drop12 (k : Byte) (n : BitVec 32) (x : List Byte) : (pgBytes k n x).drop 12 = oword 4 ((pgSum k n x).setWidth 64) ++ pgPad x := by
  unfold pgBytes
  rw [List.drop_append_of_le_length (by rw [pgHd_len]; omega), List.drop_of_length_le (by rw [pgHd_len]; omega), List.nil_append]
theorem pgBytes_drop (k : Byte) (n : BitVec 32) (x : List Byte) : (pgBytes k n x).drop 16 = pgPad x := by
  rw [show 16 = 12 + 4 from rfl, ← List.drop_drop, pgBytes_drop12]
  rw [List.drop_append_of_le_length (by rw [oword_len]; omega), List.drop_of_length_le (by rw [oword_len]; omega), List.nil_append]
theorem pgKd_bytes (k : Byte) (n : BitVec 32) (x : List Byte) : pgKd (pgBytes k n x) = nb k := rfl
theorem pgNm_bytes (k : Byte) (n : BitVec 32) (x : List Byte) : pgNm (pgBytes k n x) = n := by
  have e : ((pgBytes k n x).drop 4).take 4 = oword 4 (n.setWidth 64) := by
    unfold pgBytes pgHd
    rw [List.append_assoc, List.append_assoc, List.drop_append_of_le_length (by simp), List.drop_of_length_le (by simp), List.nil_append, List.take_append_of_le_length (by rw [oword_len]; omega), List.take_of_length_le (by rw [oword_len]; omega)]
  unfold pgNm
  rw [e]
  apply BitVec.eq_of_toNat_eq
  rw [BitVec.toNat_setWidth, pg_xword 4 _ (by omega), BitVec.toNat_setWidth]
  have := n.isLt
  omega
theorem nb_kind {K : Int} (h : 1 ≤ K ∧ K ≤ 7) : nb (BitVec.ofInt 8 K) = K := nb_ofInt _ (by omega) (by omega)
theorem pgR_bytes {K : Int} {n : BitVec 32} {x : List Byte} (h : pgOk K x = true) : pgR (pgBytes (BitVec.ofInt 8 K) n x) = ((K, n, pgPad x), 0) := by
  have o := pgOk_iff.1 h
  have ek : pgKd (pgBytes (BitVec.ofInt 8 K) n x) = K := by rw [pgKd_bytes, nb_kind ⟨o.1, o.2.1⟩]
  unfold pgR
  rw [ek, pgNm_bytes, pgBytes_drop, if_pos]
  refine ⟨pgBytes_len _ _ o.2.2, ?_⟩
  unfold pgB
  rw [if_pos (pgOk_iff.2 ⟨o.1, o.2.1, by rw [pgPad_len o.2.2]; omega⟩), pgBytes_pad _ _ o.2.2]
theorem pgR_ok {b : List Byte} {p : Int × BitVec 32 × List Byte} (h : pgR b = (p, 0)) : pgB p.1 p.2.1 p.2.2 = (b, 0) ∧ b.length = 4096 := by
  unfold pgR at h
  split at h
  · rename_i hc
    obtain rfl : p = _ := (congrArg Prod.fst h).symm
    exact ⟨hc.2, hc.1⟩
  · have := congrArg Prod.snd h; simp at this
/-- The sum stands where it should. -/
theorem pgB_sum {K : Int} {n : BitVec 32} {x b : List Byte} (h : pgB K n x = (b, 0)) : b.length = 4096 ∧ (b.drop 12).take 4 = oword 4 ((crcSum (b.take 12 ++ (z4 ++ b.drop 16))).setWidth 64) := by
  unfold pgB at h
  split at h
  · rename_i ho
    have o := pgOk_iff.1 ho
    obtain rfl : b = _ := (congrArg Prod.fst h).symm
    refine ⟨pgBytes_len _ _ o.2.2, ?_⟩
    rw [pgBytes_take, pgBytes_drop, pgBytes_drop12, List.take_append_of_le_length (by rw [oword_len]; omega), List.take_of_length_le (by rw [oword_len]; omega)]
    rfl
  · have := congrArg Prod.snd h; simp at this
theorem oword4_inj {x y : BitVec 32} (h : oword 4 (x.setWidth 64) = oword 4 (y.setWidth 64)) : x = y := by
  have e := congrArg (fun l => (xword l).toNat) h
  simp only [pg_xword 4 _ (show 8 * 4 ≤ 64 by omega), BitVec.toNat_setWidth] at e
  apply BitVec.eq_of_toNat_eq
  have := x.isLt; have := y.isLt
  omega
theorem xors_set (l : List Byte) (i : Nat) (d : Byte) (h : i < l.length) : xors (l.set i (l[i] ^^^ d)) l = List.replicate i 0#8 ++ [d] ++ List.replicate (l.length - i - 1) 0#8 := by
  apply List.ext_getElem
  · simp [xors]; omega
  · intro j h1 h2
    simp only [xors, List.getElem_zipWith, List.getElem_set]
    by_cases e : i = j
    · subst e
      rw [if_pos rfl, List.getElem_append_left (by simp), List.getElem_append_right (by simp)]
      simp only [List.length_replicate, Nat.sub_self, List.getElem_cons_zero]
      rw [BitVec.xor_comm, ← BitVec.xor_assoc, BitVec.xor_self, BitVec.zero_xor]
    · rw [if_neg e, BitVec.xor_self]
      by_cases hj : j < i
      · rw [List.getElem_append_left (by simp; omega), List.getElem_append_left (by simpa using hj)]; simp
      · rw [List.getElem_append_right (by simp; omega)]; simp
theorem sum_set (l : List Byte) (i : Nat) (d : Byte) (h : i < l.length) : crcSum (l.set i (l[i] ^^^ d)) = crcSum l ↔ d = 0#8 := by
  rw [crcSum_eq _ _ (by simp), xors_set l i d h, fold_change _ _ _ (by simp)]
  simp
/-- With one byte changed it is not read. -/
theorem pg_change {b : List Byte} {K K' : Int} {n n' : BitVec 32} {x x' : List Byte} (h : pgB K n x = (b, 0)) (i : Nat) (hi : i < b.length) (d : Byte) (h' : pgB K' n' x' = (b.set i (b[i] ^^^ d), 0)) : d = 0#8 := by
  obtain ⟨hl, hs⟩ := pgB_sum h
  obtain ⟨hl', hs'⟩ := pgB_sum h'
  by_cases h1 : 12 ≤ i ∧ i < 16
  · have e16 : (b.set i (b[i] ^^^ d)).drop 16 = b.drop 16 := List.drop_set_of_lt (by omega)
    rw [List.take_set_of_le (by omega), e16, ← hs] at hs'
    have e := congrArg (fun l => l[i - 12]?) hs'
    simp only [List.getElem?_take, List.getElem?_drop, show i - 12 < 4 by omega, if_true, show 12 + (i - 12) = i by omega] at e
    rw [List.getElem?_set, if_pos rfl, if_pos hi, List.getElem?_eq_getElem hi] at e
    have e2 := Option.some.inj e
    have e3 : b[i] ^^^ (b[i] ^^^ d) = b[i] ^^^ b[i] := by rw [e2]
    rwa [← BitVec.xor_assoc, BitVec.xor_self, BitVec.zero_xor] at e3
  · have hz : (b.set i (b[i] ^^^ d)).take 12 ++ (z4 ++ (b.set i (b[i] ^^^ d)).drop 16) = (b.take 12 ++ (z4 ++ b.drop 16)).set i ((b.take 12 ++ (z4 ++ b.drop 16))[i]'(by simp [z4]; omega) ^^^ d) ∧ ((b.set i (b[i] ^^^ d)).drop 12).take 4 = (b.drop 12).take 4 := by
      constructor
      · apply List.ext_getElem?
        intro j
        by_cases hj : j < 12
        · rw [List.getElem?_append_left (by simp; omega), List.getElem?_take, if_pos hj, List.getElem?_set, List.getElem?_set]
          by_cases e : i = j
          · subst e
            rw [if_pos rfl, if_pos rfl, if_pos hi, if_pos (by simp [z4]; omega), List.getElem_append_left (by simp; omega), List.getElem_take]
          · rw [if_neg e, if_neg e, List.getElem?_append_left (by simp; omega), List.getElem?_take, if_pos hj]
        · by_cases hj2 : j < 16
          · have e : ¬ i = j := by omega
            rw [List.getElem?_append_right (by simp; omega), List.getElem?_append_left (by simp [z4]; omega), List.getElem?_set, if_neg e, List.getElem?_append_right (by simp; omega), List.getElem?_append_left (by simp [z4]; omega)]
            simp [hl]
          · rw [List.getElem?_append_right (by simp; omega), List.getElem?_append_right (by simp [z4]; omega), List.getElem?_drop, List.getElem?_set, List.getElem?_set]
            have ej : 16 + (j - (List.take 12 (b.set i (b[i] ^^^ d))).length - z4.length) = j := by simp [z4]; omega
            rw [ej]
            by_cases e : i = j
            · subst e
              rw [if_pos rfl, if_pos rfl, if_pos hi, if_pos (by simp [z4]; omega), List.getElem_append_right (by simp; omega), List.getElem_append_right (by simp [z4]; omega), List.getElem_drop]
              congr 3
              simp [z4]; omega
            · rw [if_neg e, if_neg e, List.getElem?_append_right (by simp; omega), List.getElem?_append_right (by simp [z4]; omega), List.getElem?_drop]
              congr 1
              simp [z4]; omega
      · apply List.ext_getElem?
        intro j
        rw [List.getElem?_take, List.getElem?_take]
        by_cases hj : j < 4
        · rw [if_pos hj, if_pos hj, List.getElem?_drop, List.getElem?_drop, List.getElem?_set, if_neg (by omega)]
        · rw [if_neg hj, if_neg hj]
    rw [hz.2, hz.1, hs] at hs'
    exact (sum_set _ i d _).1 (oword4_inj hs').symm
/-! ### noughts at the end -/
def trimz (x : List Byte) : List Byte := (x.reverse.dropWhile (· == 0#8)).reverse
theorem trimz_nil : trimz [] = [] := rfl
theorem trimz_zero (l : List Byte) : trimz (l ++ [0#8]) = trimz l := by unfold trimz; rw [List.reverse_append]; rfl
theorem trimz_other (l : List Byte) {b : Byte} (h : b ≠ 0#8) : trimz (l ++ [b]) = l ++ [b] := by
  unfold trimz
  rw [List.reverse_append, List.reverse_singleton, List.singleton_append, List.dropWhile_cons, if_neg (by simpa using h), List.reverse_cons, List.reverse_reverse]
theorem trimz_zeros (l : List Byte) (m : Nat) : trimz (l ++ List.replicate m 0#8) = trimz l := by
  induction m with
  | zero => simp
  | succ m ih => rw [List.replicate_succ', ← List.append_assoc, trimz_zero, ih]
theorem trimz_pad (x : List Byte) : trimz (pgPad x) = trimz x := trimz_zeros x _
theorem trimz_len (x : List Byte) : (trimz x).length ≤ x.length := by
  unfold trimz
  rw [List.length_reverse]
  have := (List.dropWhile_suffix (l := x.reverse) (· == 0#8)).length_le
  rwa [List.length_reverse] at this
theorem trimz_pre (x : List Byte) : trimz x = x.take (trimz x).length := by
  have h := (List.dropWhile_suffix (l := x.reverse) (· == 0#8))
  have h2 : trimz x <+: x := by
    unfold trimz
    have := List.reverse_prefix.2 h
    rwa [List.reverse_reverse] at this
  exact List.prefix_iff_eq_take.1 h2
def pgSame (K : Int) (n : BitVec 32) (x : List Byte) (K' : Int) (n' : BitVec 32) (y : List Byte) : Bool := decide (K = K') && decide (n = n') && decide (trimz x = trimz y)
end Go.Proofs.YtihljjfnjclefaaDoor
/- The walks through package crc: each function once. -/
set_option linter.unusedVariables false
set_option linter.unusedSimpArgs false
namespace Go.Proofs.YtihljjfnjclefaaDoor
open Go.ChangeShapes Go.WideShapes Go.ChangeAt Go.RowKit
attribute [local go_sem] nb_beq nb_bne nb_beq1 nb_mod8 nb_shr_8 nb_shr_1 bits_xor32 bits_and32 bits_xor8 bits_xor32l bits_and32l bits_not32 BitVec.setWidth_eq nb_nonneg nb_lt8

set_option maxRecDepth 100000 in
set_option maxHeartbeats 400000 in
theorem crc_On (T : Array Value) (t : Byte → BitVec 32) (s : BitVec 32) (xs : List Byte) (A : Option Addr) (c : Nat) (w : World) (hc : xs.length ≤ c) (hm : c ≤ maxLen) (hr : Rd w A xs) (hT : IsTab T t) :
    Calls Tryd.prog 83 #[.agg T, .int .u32 (nb s), .slice A xs.length c] w fun e w' => e = .returned (.int .u32 (nb (crcOn t s xs))) ∧ w.alloc (.cells T 102) = w' := by
  have HT := Lib.hid hT
  have HR := Lib.hid hr
  clear hT hr
  unfold maxLen at hm
  go_enter Tryd.func83, Tryd.ntmps83
  go_wp2
  go_loop [7, 9, 14] (fun st _ i => ∃ k : Nat, k ≤ xs.length ∧ i = .int .i64 k ∧ st = .int .u32 (nb ((xs.take k).foldl (crcStep t) (~~~ s)))) (fun _ _ i => xs.length - (intOf i).toNat)
  case atStart => exact ⟨0, by omega, rfl, by simp⟩
  case round =>
    obtain ⟨k, hk, rfl, rfl⟩ := hrel
    by_cases hlt : k < xs.length
    · obtain ⟨b, o, rfl, hb, hcell⟩ := HR.out.form (by omega)
      have hck := hcell k hlt
      unfold vb at hck
      clear hcell
      have hsn : List.foldl (crcStep t) (~~~s) (List.take (k + 1) xs) = crcStep t (List.foldl (crcStep t) (~~~s) (List.take k xs)) xs[k] := by
        rw [List.take_succ_eq_append_getElem hlt, List.foldl_append]; rfl
      have HS := Lib.hid hsn
      clear hsn
      generalize hst : List.foldl (crcStep t) (~~~s) (List.take k xs) = st at *
      have HST := Lib.hid hst
      clear hst
      generalize hx : xs[k] = x at *
      have HX := Lib.hid hx
      clear hx
      have ht := HT.out.2 (st.setWidth 8 ^^^ x)
      go_wp2
      go_round
      case rel => exact ⟨k + 1, by omega, by go_num, by rw [HS.out]; rfl⟩
      case measure => simp [intOf]; omega
    · go_wp2
      go_ret
      have : k = xs.length := by omega
      subst this
      exact ⟨by simp [crcOn], rfl⟩

def zeroTab : Array Value := Array.replicate 256 (.int .u32 0)
theorem zeroTab_size : zeroTab.size = 256 := by simp [zeroTab]
theorem zero_tab : (Tryd.prog.info? 102).map (fun i => (i.zero, i.size)) = some (some (.agg zeroTab), 256) := by kernel_rfl
/-- The first k cells hold their words. -/
def TabTo (C : Array Value) (k : Nat) : Prop := C.size = 256 ∧ (∀ v ∈ C.toList, v.oneCell' = true) ∧ ∀ j, j < k → C[j]? = some (.int .u32 (nb (crcWord j)))
theorem TabTo.zero : TabTo zeroTab 0 := ⟨zeroTab_size, by
  intro v hv
  simp only [zeroTab, Array.toList_replicate, List.mem_replicate] at hv
  rw [hv.2]; rfl, fun j hj => by omega⟩
theorem TabTo.set {C : Array Value} {k : Nat} (h : TabTo C k) (hk : k < 256) : TabTo (C.setIfInBounds k (.int .u32 (nb (crcWord k)))) (k + 1) := by
  obtain ⟨h1, h2, h3⟩ := h
  refine ⟨by simp [h1], ?_, fun j hj => ?_⟩
  · intro v hv
    rw [Array.toList_setIfInBounds] at hv
    rcases List.mem_or_eq_of_mem_set hv with hv | rfl
    · exact h2 v hv
    · rfl
  · rw [Array.getElem?_setIfInBounds]
    by_cases e : k = j
    · subst e; simp [h1, hk]
    · rw [if_neg e]; exact h3 j (by omega)
theorem TabTo.at {C : Array Value} {k : Nat} (h : TabTo C k) (j : Nat) (hj : j < 256) : ∃ v, C[j]? = some v := ⟨C[j]'(by rw [h.1]; exact hj), by simp [h.1, hj]⟩
theorem TabTo.tab {C : Array Value} (h : TabTo C 256) : IsTab C crcT := ⟨h.1, fun b => by
  have hb := b.isLt
  rw [show (nb b).toNat = b.toNat from by simp [nb]]
  exact h.2.2 _ hb⟩
theorem crcBits_succ (n : Nat) (x : BitVec 32) : crcBits (n + 1) x = crcBit (crcBits n x) := rfl
theorem ofNat32_nb (k : Nat) (h : k < 256) : nb (BitVec.ofNat 32 k) = (k : Int) := nb_ofNat k (by omega)

set_option maxRecDepth 100000 in
set_option maxHeartbeats 400000 in
theorem crc_Table (w : World) :
    Calls Tryd.prog 76 #[] w fun e w' => ∃ T, e = .returned (.agg T) ∧ TabTo T 256 ∧ Below w.heap.size w w' := by
  have hz := (zero_of_info zero_tab).1
  go_enter Tryd.func76, Tryd.ntmps76
  go_wp2
  clear hz
  go_loopw [1, 2, 3, 4] (fun _ _ _ i wr => ∃ k C, k ≤ 256 ∧ i = .int .i64 (k : Nat) ∧ wr = w.alloc (.cells C 102) ∧ TabTo C k) (fun _ _ _ i _ => 256 - (intOf i).toNat)
  case atStart => exact ⟨0, zeroTab, by omega, rfl, rfl, TabTo.zero⟩
  case round =>
    obtain ⟨k, C, hk, rfl, rfl, hC⟩ := hrel
    by_cases hlt : k < 256
    · obtain ⟨v, hv⟩ := hC.at k hlt
      have hset := hC.set hlt
      have HC := Lib.hid hset
      clear hC hset
      go_wp2
      go_loop [2, 3, 9] (fun x _ j => ∃ n : Nat, n ≤ 8 ∧ j = .int .i64 n ∧ x = .int .u32 (nb (crcBits n (BitVec.ofNat 32 k)))) (fun _ _ j => 8 - (intOf j).toNat)
      case atStart => exact ⟨0, by omega, rfl, by rw [show crcBits 0 (BitVec.ofNat 32 k) = BitVec.ofNat 32 k from rfl, ofNat32_nb k hlt]⟩
      case round =>
        obtain ⟨n, hn, rfl, rfl⟩ := hrel
        by_cases hln : n < 8
        · have hsucc := crcBits_succ n (BitVec.ofNat 32 k)
          have HS := Lib.hid hsucc
          clear hsucc
          generalize crcBits n (BitVec.ofNat 32 k) = x at *
          by_cases hb : x &&& 1#32 = 1#32
          · have hb1 : (x &&& 1#32 == 1#32) = true := by rw [hb]; rfl
            have HE : crcBit x = (x >>> 1) ^^^ 0x82f63b78#32 := by unfold crcBit; rw [if_pos hb]
            have HE := Lib.hid HE
            clear hb
            go_wp2
            go_round
            case rel => exact ⟨n + 1, by omega, by go_num, by rw [HS.out, HE.out]⟩
            case measure => simp [intOf]; omega
          · have hb1 : (x &&& 1#32 == 1#32) = false := beq_eq_false_iff_ne.2 hb
            have HE : crcBit x = x >>> 1 := by unfold crcBit; rw [if_neg hb]
            have HE := Lib.hid HE
            clear hb
            go_wp2
            go_round
            case rel => exact ⟨n + 1, by omega, by go_num, by rw [HS.out, HE.out]⟩
            case measure => simp [intOf]; omega
        · obtain rfl : n = 8 := by omega
          go_wp2
          go_roundw
          case rel => exact ⟨k + 1, _, by omega, by go_num, rfl, HC.out⟩
          case measure => simp [intOf]; omega
    · obtain rfl : k = 256 := by omega
      have hsz : (Tryd.prog.info? 102).map (·.size) = some C.size := by rw [hC.1]; exact (zero_of_info zero_tab).2
      have hl := run_loadAt_new (P := Tryd.prog) w 102 C 256 22 Tryd.underlying102 hsz
      have hs := run_storeAt_new (P := Tryd.prog) w 102 C C hsz rfl (by rw [← Array.all_toList]; exact List.all_eq_true.2 hC.2.1)
      have HC := Lib.hid hC
      have HZ := Lib.hid hsz
      clear hC hsz
      go_wp2_with (first | (refine wpList_load_by rfl _ _ rfl _ hl ?_) | (refine wpList_store_by rfl _ _ _ rfl _ hs ?_))
      exact bodyPost_ret (v := .agg C) (results_cell_row Tryd.results76 _ _ w.heap.size 102 C (0, 0) _ rfl (heap_alloc_last w _) Tryd.underlying102 rfl HZ.out) rfl ⟨C, rfl, HC.out, (Below.refl _ _).alloc (Nat.le_refl _) _⟩

/-- The sum of several, one behind the other. -/
def crcOns (t : Byte → BitVec 32) (ls : List (List Byte)) : BitVec 32 := ls.foldl (crcOn t) 0#32

theorem size_tab {T : Array Value} {t : Byte → BitVec 32} (h : IsTab T t) : (Tryd.prog.info? 102).map (·.size) = some T.size := by rw [h.1]; exact (zero_of_info zero_tab).2

set_option maxRecDepth 100000 in
set_option maxHeartbeats 1000000 in
theorem crc_on (T : Array Value) (t : Byte → BitVec 32) (ls : List (List Byte)) (A : Option Addr) (c : Nat) (w : World) (hc : ls.length ≤ c) (hm : c ≤ maxLen) (hr : RdL w A ls) (hT : IsTab T t) :
    Calls Tryd.prog 75 #[.agg T, .slice A ls.length c] w fun e w' => e = .returned (.int .u32 (nb (crcOns t ls))) ∧ Below w.heap.size w w' := by
  have HT := Lib.hid hT
  have HR := Lib.hid hr
  clear hT hr
  unfold maxLen at hm
  go_enter Tryd.func75, Tryd.ntmps75
  go_wp2
  go_loopw [4, 6, 9] (fun st _ i wr => ∃ k : Nat, k ≤ ls.length ∧ i = .int .i64 k ∧ st = .int .u32 (nb ((ls.take k).foldl (crcOn t) 0#32)) ∧ Hid (Below (w.heap.size + 1) (w.alloc (.cells T 102)) wr)) (fun _ _ i _ => ls.length - (intOf i).toNat)
  case atStart => exact ⟨0, by omega, rfl, by simp [nb_zero], Below.refl _ _⟩
  case round =>
    obtain ⟨k, hk, rfl, rfl, HB⟩ := hrel
    by_cases hlt : k < ls.length
    · have hbw : Below w.heap.size w wr := ((Below.refl _ w).alloc (Nat.le_refl _) _).trans (HB.out.mono (by omega))
      obtain ⟨b, o, A', c', rfl, hcell, hc', hm', hrd⟩ := (HR.out.below hbw) k hlt
      have HRD := Lib.hid hrd
      have HBW := Lib.hid hbw
      have hrow : wr.heap[w.heap.size]? = some (.cells T 102 (0, 0)) := (HB.out.block _ (by omega)).trans (heap_alloc_last _ _)
      clear hrd hbw
      have hsn : List.foldl (crcOn t) 0#32 (List.take (k + 1) ls) = crcOn t (List.foldl (crcOn t) 0#32 (List.take k ls)) ls[k] := by
        rw [List.take_succ_eq_append_getElem hlt, List.foldl_append]; rfl
      have HS := Lib.hid hsn
      clear hsn
      generalize List.foldl (crcOn t) 0#32 (List.take k ls) = st at *
      generalize ls[k] = x at *
      have HW := Lib.hid hrow
      clear hrow
      go_wp2_with (first | (refine wpList_load_row rfl _ _ rfl w.heap.size rfl _ T (0, 0) _ HW.out Tryd.underlying102 rfl (size_tab HT.out) ?_) | (go_at_call 83; refine (crc_On T t _ x _ _ _ hc' hm' HRD.out HT.out).mono ?_; rintro e w' ⟨rfl, rfl⟩))
      go_roundw
      case rel => exact ⟨k + 1, by omega, by go_num, by rw [HS.out], HB.out.alloc (by have := HB.out.size; simp at this; omega) _⟩
      case measure => simp [intOf]; omega
    · go_wp2
      go_ret
      have : k = ls.length := by omega
      subst this
      exact ⟨by simp [crcOns], ((Below.refl _ w).alloc (Nat.le_refl _) _).trans (HB.out.mono (by omega))⟩

set_option maxRecDepth 100000 in
set_option maxHeartbeats 400000 in
theorem crc_Parts (ls : List (List Byte)) (A : Option Addr) (c : Nat) (w : World) (hc : ls.length ≤ c) (hm : c ≤ maxLen) (hr : RdL w A ls) :
    Calls Tryd.prog 62 #[.slice A ls.length c] w fun e w' => e = .returned (.int .u32 (nb (crcOns crcT ls))) ∧ Below w.heap.size w w' := by
  have HR := Lib.hid hr
  clear hr
  go_enter Tryd.func62, Tryd.ntmps62
  go_wp2_with fail
  refine (crc_Table _).mono ?_
  rintro e w1 ⟨T, rfl, hT, hb⟩
  have HT := Lib.hid hT
  have HB := Lib.hid hb
  clear hT hb
  go_wp2_with fail
  refine (crc_on T crcT ls A c _ hc hm (HR.out.below HB.out) HT.out.tab).mono ?_
  rintro e w2 ⟨rfl, hb2⟩
  have HB2 := Lib.hid hb2
  clear hb2
  go_wp2
  go_ret
  exact ⟨rfl, below_trans HB.out HB.out.size HB2.out⟩

end Go.Proofs.YtihljjfnjclefaaDoor
/- The walks through package tallymankit: Own, Pick. -/
set_option linter.unusedVariables false
set_option linter.unusedSimpArgs false
namespace Go.Proofs.YtihljjfnjclefaaDoor
open Go.ChangeShapes Go.WideShapes Go.ChangeAt Go.RowKit

/-- n modulo m, from 0 on (0 of an m below 1). -/
def pick (n m : Int) : Int := if m < 1 then 0 else n % m
theorem pick_range (n m : Int) (h : 1 ≤ m) : 0 ≤ pick n m ∧ pick n m < m := by
  unfold pick
  rw [if_neg (by omega)]
  exact ⟨Int.emod_nonneg _ (by omega), Int.emod_lt_of_pos _ (by omega)⟩
theorem tmod_neg (n m : Int) (h : 1 ≤ m) (hn : n.tmod m < 0) : n.tmod m + m = n % m := by
  rw [Int.tmod_eq_emod] at hn ⊢
  split at hn
  · have := Int.emod_nonneg n (show m ≠ 0 by omega); omega
  · rename_i hc
    rw [if_neg hc, Int.natAbs_of_nonneg (by omega)]; omega
theorem tmod_pos (n m : Int) (h : 1 ≤ m) (hn : ¬ n.tmod m < 0) : n.tmod m = n % m := by
  rw [Int.tmod_eq_emod] at hn ⊢
  split at hn
  · rename_i hc; rw [if_pos hc]; omega
  · rename_i hc
    rw [if_neg hc, Int.natAbs_of_nonneg (by omega)] at *
    have := Int.emod_lt_of_pos n (show 0 < m by omega)
    omega

set_option maxHeartbeats 400000 in
theorem kit_Pick (n m : Int) (w : World) (hm0 : 1 ≤ m) (hm : m ≤ 9223372036854775807) : Calls Tryd.prog 11 #[.int .i64 n, .int .i64 m] w fun e w' => e = .returned (.int .i64 (pick n m)) ∧ w = w' := by
  have hp : pick n m = n % m := by unfold pick; rw [if_neg (by omega)]
  rw [hp]
  clear hp
  have h1 : ¬ m < 1 := by omega
  have h2 : (m == 0) = false := beq_eq_false_iff_ne.2 (by omega)
  by_cases hn : n.tmod m < 0
  · have H := Lib.hid (tmod_neg n m hm0 hn)
    have hlow : -9223372036854775808 ≤ n.tmod m + m := by rw [H.out]; have := Int.emod_nonneg n (show m ≠ 0 by omega); omega
    have hd : decide (n.tmod m < 0) = true := by simpa using hn
    go_enter Tryd.func11, Tryd.ntmps11
    go_wp2
    go_ret
    exact ⟨by rw [← H.out]; simp, rfl⟩
  · have H := Lib.hid (tmod_pos n m hm0 hn)
    have hd : decide (n.tmod m < 0) = false := by simpa using hn
    go_enter Tryd.func11, Tryd.ntmps11
    go_wp2
    go_ret
    exact ⟨by rw [← H.out]; simp, rfl⟩

set_option maxRecDepth 100000 in
set_option maxHeartbeats 400000 in
theorem kit_Own (xs : List Byte) (A : Option Addr) (c : Nat) (w : World) (hc : xs.length ≤ c) (hm : xs.length ≤ 140737488355328) (hr : Rd w A xs) :
    Calls Tryd.prog 12 #[.slice A xs.length c] w fun e w' => ∃ A' c', e = .returned (.slice A' xs.length c') ∧ Own w' w.heap.size (.slice A' xs.length c') xs ∧ Below w.heap.size w w' := by
  have HR := Lib.hid hr
  clear hr
  go_enter Tryd.func12, Tryd.ntmps12
  go_wp2_with (at_builtin; refine wpList_append_bytes rfl _ _ rfl w.heap.size _ [] (OwnV.lit _ w [] (by simp)) rfl A c xs rfl (HR.out.alloc _) (by simpa using hm) (by simp) ?_; intro v' w1 ho hg _; have HO := Lib.hid ho; have HG := Lib.hid hg; clear ho hg)
  go_ret
  have ho := HO.out
  rw [List.nil_append] at ho
  obtain ⟨A', c', e1, _⟩ := ho.form
  rw [e1] at ho
  exact ⟨A', c', by simp [e1], ho, (((Below.refl _ w).alloc (Nat.le_refl _) _).grown HG.out (by simp) (by simp [Value.ownBlock]))⟩

end Go.Proofs.YtihljjfnjclefaaDoor
/- The walks through slices.Clone, Grow, Concat and what lays down numbers and words. -/
set_option linter.unusedVariables false
set_option linter.unusedSimpArgs false
namespace Go.Proofs.YtihljjfnjclefaaDoor
open Go.ChangeShapes Go.WideShapes Go.ChangeAt Go.RowKit

set_option maxRecDepth 100000 in
set_option maxHeartbeats 400000 in
theorem sl_Clone (xs : List Byte) (A : Option Addr) (n c : Nat) (w : World) (hn : n = xs.length) (hm : xs.length ≤ 140737488355328) (hr : Rd w A xs) :
    Calls Tryd.prog 56 #[.slice A n c] w fun e w' => ∃ A' c', e = .returned (.slice A' n c') ∧ Own w' w.heap.size (.slice A' n c') xs ∧ Below w.heap.size w w' := by
  subst hn
  have HR := Lib.hid hr
  clear hr
  cases A with
  | none =>
    have hx : xs = [] := by
      cases xs with
      | nil => rfl
      | cons y ys => obtain ⟨b, o, e, _⟩ := HR.out 0 (by simp [vbs]); cases e
    subst hx
    simp only [List.length_nil]
    have hq : ∀ W, (binOp .eql 23 (.slice none 0 c) (.slice none 0 0)).run Tryd.prog W = .ok (.bool true) W := fun W => Lib.run_eql_slice_nil W _ _ none _ c 0 0 Tryd.underlying23
    go_enter Tryd.func56, Tryd.ntmps56
    go_wp2
    go_ret
    exact ⟨none, 0, rfl, Own.nil _ _, Below.refl _ _⟩
  | some A =>
    have hq : ∀ W, (binOp .eql 23 (.slice (some A) xs.length c) (.slice none 0 0)).run Tryd.prog W = .ok (.bool false) W := fun W => Lib.run_eql_slice_nil W _ _ (some A) _ c 0 0 Tryd.underlying23
    go_enter Tryd.func56, Tryd.ntmps56
    go_wp2_with (at_builtin; refine wpList_append_bytes rfl _ _ rfl w.heap.size _ [] (OwnV.lit _ w [] (by simp)) rfl (some A) c xs rfl (HR.out.alloc _) (by simpa using hm) (by simp) ?_; intro v' w1 ho hg _; have HO := Lib.hid ho; have HG := Lib.hid hg; clear ho hg)
    go_ret
    have ho := HO.out
    rw [List.nil_append] at ho
    obtain ⟨A', c', e1, _⟩ := ho.form
    rw [e1] at ho
    exact ⟨A', c', by simp [e1], ho, (((Below.refl _ w).alloc (Nat.le_refl _) _).grown HG.out (by simp) (by simp [Value.ownBlock]))⟩

set_option maxRecDepth 100000 in
set_option maxHeartbeats 400000 in
/-- Grow of nil. -/
theorem sl_Grow (n : Nat) (w : World) (hn : n ≤ 140737488355328) :
    Calls Tryd.prog 74 #[.slice none 0 0, .int .i64 (n : Int)] w fun e w' => ∃ v, e = .returned v ∧ Own w' w.heap.size v [] ∧ Below w.heap.size w w' := by
  obtain ⟨i, hi, hz, hsize, hby⟩ := info_parts info_u8
  by_cases h0 : 0 < n
  · have hcut := cut_hi none 0 [] 0 (Nat.le_refl _) (Nat.le_refl _)
    have hrun := fun ty => Lib.run_append_nil_zeros (P := Tryd.prog) w 23 3 ty 5 i _ .i64 .i64 Tryd.underlying23 Tryd.underlying3 hi hz n h0 (by omega) (by omega) (by rw [hby]; omega)
    have HRUN := Lib.hid hrun
    clear hrun
    have hcap : grownCap w n 0 5 ≤ maxLen := grownCap_le_maxLen w n 0 _ (by rw [maxLen_eq]; omega)
    have HCAP := Lib.hid hcap
    go_enter Tryd.func74, Tryd.ntmps74
    go_wp2_with (at_builtin; refine Lib.wpList_append_run _ rfl _ _ _ _ rfl _ _ rfl rfl _ _ (HRUN.out _) ?_)
    go_ret
    refine ⟨_, rfl, ?_, ?_⟩
    · have h := World.ownsRow_made (base := w.heap.size) (e := 5) (size := 1) w.drew (Builtin.zeroCells #[Value.int IntKind.u8 0] n ++ Builtin.zeroCells #[Value.int IntKind.u8 0] (grownCap w n 0 5 - n)) (grownCap w n 0 5) (Nat.le_refl _) HCAP.out (by simp [size_zeroCells]; have := grownCap_ge w n 0 5; omega)
      exact h
    · exact ((FB.refl w).alloc _).drew
  · obtain rfl : n = 0 := by omega
    go_enter Tryd.func74, Tryd.ntmps74
    go_wp2
    go_ret
    exact ⟨_, rfl, Own.nil _ _, Below.refl _ _⟩

theorem lens_le (ls : List (List Byte)) (k : Nat) : (ls.take k).flatten.length ≤ ls.flatten.length := by
  conv => rhs; rw [← List.take_append_drop k ls]
  rw [List.flatten_append, List.length_append]; omega
theorem lens_succ (ls : List (List Byte)) (k : Nat) (h : k < ls.length) : (ls.take (k + 1)).flatten = (ls.take k).flatten ++ ls[k] := by
  rw [List.take_succ_eq_append_getElem h, List.flatten_append]; simp only [List.flatten_cons, List.flatten_nil, List.append_nil]

set_option maxRecDepth 100000 in
set_option maxHeartbeats 1000000 in
theorem sl_Concat (ls : List (List Byte)) (A : Option Addr) (n c : Nat) (w : World) (hn : n = ls.length) (hc : ls.length ≤ c) (hm : c ≤ maxLen) (hr : RdL w A ls) (hl : ls.flatten.length ≤ 140737488355328) :
    Calls Tryd.prog 61 #[.slice A n c] w fun e w' => ∃ v, e = .returned v ∧ Own w' w.heap.size v ls.flatten ∧ Below w.heap.size w w' := by
  subst hn
  have HR := Lib.hid hr
  clear hr
  unfold maxLen at hm
  go_enter Tryd.func61, Tryd.ntmps61
  go_wp2
  go_loop [3, 5, 11] (fun s _ i => ∃ k : Nat, k ≤ ls.length ∧ i = .int .i64 k ∧ s = .int .i64 ((ls.take k).flatten.length : Nat)) (fun _ _ i => ls.length - (intOf i).toNat)
  case atStart => exact ⟨0, by omega, rfl, by simp⟩
  case round =>
    obtain ⟨k, hk, rfl, rfl⟩ := hrel
    by_cases hlt : k < ls.length
    · obtain ⟨b, o, A', c', rfl, hcell, hc', hm', hrd⟩ := HR.out k hlt
      have HS := Lib.hid (lens_succ ls k hlt)
      have h1 := lens_le ls (k + 1)
      have h2 : (ls.take (k + 1)).flatten.length = (ls.take k).flatten.length + ls[k].length := by rw [HS.out]; simp
      have H2 := Lib.hid h2
      have h3 : (ls.take k).flatten.length + ls[k].length ≤ 140737488355328 := by omega
      clear hrd h1 h2
      generalize (ls.take k).flatten.length = m at *
      generalize ls[k].length = q at *
      go_wp2
      go_round
      case rel => exact ⟨k + 1, by omega, by go_num, by rw [H2.out]; go_num⟩
      case measure => simp [intOf]; omega
    · obtain rfl : k = ls.length := by omega
      have hfl : (ls.take ls.length).flatten.length = ls.flatten.length := by simp
      rw [hfl]
      have HL := Lib.hid hl
      obtain ⟨T, hT⟩ : ∃ T, T = ls.flatten.length := ⟨_, rfl⟩
      have HT := Lib.hid hT
      rw [← hT]
      have hT2 : T ≤ 140737488355328 := by rw [hT]; exact hl
      clear hT hl
      go_wp2_with fail
      refine (sl_Grow T _ hT2).mono ?_
      rintro e w1 ⟨v0, rfl, ho, hb⟩
      have HO0 := Lib.hid ho
      have HB0 := Lib.hid hb
      clear ho hb hfl
      have hl := HL.out
      go_wp2
      go_loopw [6, 8, 27] (fun v _ i wr => ∃ k : Nat, k ≤ ls.length ∧ i = .int .i64 k ∧ Hid (Own wr w.heap.size v (ls.take k).flatten) ∧ Hid (FB w wr)) (fun _ _ i _ => ls.length - (intOf i).toNat)
      case atStart => exact ⟨0, by omega, rfl, HO0.out, HB0.out⟩
      case round =>
        obtain ⟨k, hk, rfl, HO, HF⟩ := hrel
        by_cases hlt : k < ls.length
        · obtain ⟨b, o, A', c', rfl, hcell, hc', hm', hrd⟩ := (HR.out.below HF.out) k hlt
          have HRD := Lib.hid hrd
          have HS := Lib.hid (lens_succ ls k hlt)
          have h1 := lens_le ls (k + 1)
          have h3 : (ls.take k).flatten.length + ls[k].length ≤ 140737488355328 := by rw [HS.out, List.length_append] at h1; omega
          clear hrd h1
          generalize ls[k] = x at *
          generalize (ls.take k).flatten = y at *
          go_wp2_with (at_builtin; refine wpList_append_bytes rfl _ _ rfl w.heap.size _ y HO.out rfl A' c' x rfl HRD.out h3 HF.out.le ?_; intro v' w2 ho hg _; have HO2 := Lib.hid ho; have HG := Lib.hid hg; clear ho hg)
          go_roundw
          case rel => exact ⟨k + 1, by omega, by go_num, by rw [HS.out]; exact HO2.out, HF.out.grown HG.out (Own.bnd HO.out)⟩
          case measure => simp [intOf]; omega
        · obtain rfl : k = ls.length := by omega
          go_wp2
          go_ret
          have ho := HO.out
          rw [List.take_length] at ho
          exact ⟨_, rfl, ho, HF.out⟩
end Go.Proofs.YtihljjfnjclefaaDoor
/- The walks through Number, Word, Block, Size, of octet and of the document's answer. -/
set_option linter.unusedVariables false
set_option linter.unusedSimpArgs false
namespace Go.Proofs.YtihljjfnjclefaaDoor
open Go.ChangeShapes Go.WideShapes Go.ChangeAt Go.RowKit
attribute [local go_sem] nb_mod8 bits_or8l nb_shr_7 nb_shr_8 nb_nonneg nb_lt64

theorem ge128 {n : BitVec 64} (h : 128#64 ≤ n) : (128 : Int) ≤ nb n := by
  unfold nb; have : 128 ≤ n.toNat := by simpa [BitVec.le_def] using h
  omega
theorem lt128 {n : BitVec 64} (h : ¬ 128#64 ≤ n) : nb n < 128 := by
  unfold nb; have : ¬ 128 ≤ n.toNat := by simpa [BitVec.le_def] using h
  omega
theorem shr7_lt {n : BitVec 64} (h : 128#64 ≤ n) : (n >>> 7).toNat < n.toNat := by
  have : 128 ≤ n.toNat := by simpa [BitVec.le_def] using h
  rw [BitVec.toNat_ushiftRight, Nat.shiftRight_eq_div_pow]; omega

theorem seven8 : ∀ x : BitVec 8, (x ||| 128#8).toNat = 128 + x.toNat % 128 := by decide
theorem seven_byte (n : BitVec 64) : 128 + nb n % 128 = nb (n.setWidth 8 ||| 128#8) := by
  have h := seven8 (n.setWidth 8)
  rw [BitVec.toNat_setWidth] at h
  unfold nb
  rw [h]
  omega

/-! ### Word -/
set_option maxRecDepth 100000 in
set_option maxHeartbeats 400000 in
theorem ref_Word (xs : List Byte) (A : Option Addr) (n c : Nat) (m : BitVec 64) (z : Int) (w : World) (hn : n = xs.length) (hm : xs.length ≤ 100000000000000) (hr : Rd w A xs) (hz : z = 2 ∨ z = 4 ∨ z = 8) :
    Calls Tryd.prog 45 #[.slice A n c, .int .u64 (nb m), .int .i64 z] w fun e w' => ∃ v, e = .returned v ∧ Own w' w.heap.size v (xs ++ owordZ z m) ∧ Below w.heap.size w w' := by
  subst hn
  have HR := Lib.hid hr
  clear hr
  obtain ⟨q, rfl, hq, hqq⟩ : ∃ q : Nat, z = q ∧ owordZ z m = oword q m ∧ (q = 2 ∨ q = 4 ∨ q = 8) := by
    rcases hz with rfl | rfl | rfl
    · exact ⟨2, rfl, by simp [owordZ], by omega⟩
    · exact ⟨4, rfl, by simp [owordZ], by omega⟩
    · exact ⟨8, rfl, by simp [owordZ], by omega⟩
  rw [hq]
  have hq8 : q ≤ 8 := by omega
  have hb : (((q : Int) != 2) = false ∨ (((q : Int) != 2) = true ∧ ((q : Int) != 4) = false) ∨ (((q : Int) != 2) = true ∧ ((q : Int) != 4) = true ∧ ((q : Int) != 8) = false)) := by
    rcases hqq with rfl | rfl | rfl <;> simp
  clear hq hz hqq
  rcases hb with h1 | ⟨h1, h2⟩ | ⟨h1, h2, h3⟩
  all_goals
    go_enter Tryd.func45, Tryd.ntmps45
    go_wp2_with (at_builtin; refine wpList_append_bytes rfl _ _ rfl w.heap.size _ [] (OwnV.lit _ w [] (by simp)) rfl A c xs rfl (HR.out.alloc _) (by simp; omega) (by simp) ?_; intro v' w1 ho hg _; have HO0 := Lib.hid ho; have HG0 := Lib.hid hg; clear ho hg)
    have HB0 := Lib.hid (show FB w w1 from ((FB.refl w).alloc _).grown HG0.out (by simp [Value.ownBlock]))
    clear HG0
    go_loopw [7, 8] (fun v i wr => ∃ k : Nat, k ≤ q ∧ i = .int .i64 k ∧ Hid (Own wr w.heap.size v (xs ++ oword k m)) ∧ Hid (FB w wr)) (fun _ i _ => q - (intOf i).toNat)
    case atStart => exact ⟨0, by omega, rfl, Lib.hid (by have := HO0.out; rw [List.nil_append] at this; simpa [oword] using this), HB0.out⟩
    case round =>
      obtain ⟨k, hk, rfl, HO, HF⟩ := hrel
      by_cases hlt : k < q
      · have HS := Lib.hid (oword_succ k m)
        have hl := oword_len k m
        have HL := Lib.hid hl
        have hsh : (nb m / 2 ^ (8 * k)) % 256 = nb ((m >>> (8 * k)).setWidth 8) := by
          rw [← nb_mod8]; congr 1
          have := nb_shr m (8 * k)
          rw [← this]; simp
        clear hl
        go_wp2_with (at_builtin; refine wpList_append_bytes rfl _ _ rfl w.heap.size _ (xs ++ oword k m) (HO.out.alloc _) rfl (some ⟨wr.heap.size, 0, none⟩) 1 [(m >>> (8 * k)).setWidth 8] rfl (RdV.lit wr (vbs [(m >>> (8 * k)).setWidth 8]) _) (by simp [HL.out]; omega) (Nat.le_trans HF.out.le (by simp)) ?_; intro v' w2 ho hg _; have HO2 := Lib.hid ho; have HG := Lib.hid hg; clear ho hg)
        go_roundw
        case rel => exact ⟨k + 1, by omega, by go_num, by rw [HS.out, ← List.append_assoc]; exact HO2.out, (HF.out.alloc _).grown HG.out (Own.bnd HO.out)⟩
        case measure => simp [intOf]; omega
      · obtain rfl : k = q := by omega
        go_wp2
        go_ret
        exact ⟨_, rfl, HO.out, HF.out⟩
end Go.Proofs.YtihljjfnjclefaaDoor
