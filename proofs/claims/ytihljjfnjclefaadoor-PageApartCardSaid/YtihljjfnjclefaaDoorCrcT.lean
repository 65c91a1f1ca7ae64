/- Checksums, in plain Lean: xor goes through, a step can be undone. -/
import Derived.Test.YtihljjfnjclefaaDoorCrcP
set_option linter.unusedVariables false
set_option linter.unusedSimpArgs false
namespace Go.Proofs.YtihljjfnjclefaaDoor

theorem and_one_iff (x : BitVec 32) : x &&& 1#32 = 1#32 ↔ x.getLsbD 0 = true := by
  constructor
  · intro h
    have := congrArg (fun v : BitVec 32 => v.getLsbD 0) h
    simpa using this
  · intro h
    apply BitVec.eq_of_getLsbD_eq
    intro i hi
    by_cases h0 : i = 0
    · subst h0; simp [h]
    · simp [BitVec.getLsbD_one, h0]
theorem crcBit_eq (x : BitVec 32) : crcBit x = (x >>> 1) ^^^ (if x.getLsbD 0 then 0x82f63b78#32 else 0#32) := by
  unfold crcBit
  by_cases h : x.getLsbD 0 = true
  · rw [if_pos ((and_one_iff x).2 h), if_pos h]
  · rw [if_neg (fun e => h ((and_one_iff x).1 e)), if_neg h, BitVec.xor_zero]
theorem crcBit_xor (x y : BitVec 32) : crcBit (x ^^^ y) = crcBit x ^^^ crcBit y := by
  rw [crcBit_eq, crcBit_eq, crcBit_eq]
  apply BitVec.eq_of_getLsbD_eq
  intro i hi
  simp only [BitVec.getLsbD_xor, BitVec.getLsbD_ushiftRight]
  cases x.getLsbD 0 <;> cases y.getLsbD 0 <;> simp
  · cases x.getLsbD (1 + i) <;> cases y.getLsbD (1 + i) <;> simp
  · cases x.getLsbD (1 + i) <;> cases y.getLsbD (1 + i) <;> simp
theorem crcBits_xor (n : Nat) (x y : BitVec 32) : crcBits n (x ^^^ y) = crcBits n x ^^^ crcBits n y := by
  induction n with
  | zero => rfl
  | succ n ih => simp only [crcBits, ih, crcBit_xor]
theorem crcBit_zero : crcBit 0#32 = 0#32 := by decide
theorem crcBits_zero (n : Nat) : crcBits n 0#32 = 0#32 := by
  induction n with
  | zero => rfl
  | succ n ih => simp only [crcBits, ih, crcBit_zero]
theorem crcBit_inj {x : BitVec 32} (h : crcBit x = 0#32) : x = 0#32 := by
  rw [crcBit_eq] at h
  by_cases h0 : x.getLsbD 0 = true
  · rw [if_pos h0] at h
    have := congrArg (fun v : BitVec 32 => v.getLsbD 31) h
    simp at this
  · rw [if_neg h0, BitVec.xor_zero] at h
    apply BitVec.eq_of_getLsbD_eq
    intro i hi
    cases i with
    | zero => simpa using h0
    | succ i =>
      have := congrArg (fun v : BitVec 32 => v.getLsbD i) h
      simp only [BitVec.getLsbD_ushiftRight] at this
      rw [Nat.add_comm] at this
      simpa using this
theorem crcBits_inj {n : Nat} {x : BitVec 32} (h : crcBits n x = 0#32) : x = 0#32 := by
  induction n with
  | zero => exact h
  | succ n ih => exact ih (crcBit_inj h)
theorem xor_eq_zero {n : Nat} {x y : BitVec n} : x ^^^ y = 0#n ↔ x = y := by
  constructor
  · intro h
    have : (x ^^^ y) ^^^ y = 0#n ^^^ y := by rw [h]
    rwa [BitVec.xor_assoc, BitVec.xor_self, BitVec.xor_zero, BitVec.zero_xor] at this
  · rintro rfl; exact BitVec.xor_self
theorem crcBits_eq {n : Nat} {x y : BitVec 32} : crcBits n x = crcBits n y ↔ x = y := by
  rw [← xor_eq_zero, ← crcBits_xor]
  constructor
  · intro h; exact xor_eq_zero.1 (crcBits_inj h)
  · rintro rfl; rw [BitVec.xor_self]; exact crcBits_zero n
theorem crcBits_low {n : Nat} {x : BitVec 32} (h : ∀ i, i < n → x.getLsbD i = false) : crcBits n x = x >>> n := by
  induction n with
  | zero => simp [crcBits]
  | succ n ih =>
    rw [crcBits, ih (fun i hi => h i (by omega)), crcBit_eq]
    have h0 : (x >>> n).getLsbD 0 = false := by simpa using h n (by omega)
    rw [if_neg (by rw [h0]; simp), BitVec.xor_zero, BitVec.shiftRight_add]
theorem crcBits_add (m n : Nat) (x : BitVec 32) : crcBits (m + n) x = crcBits m (crcBits n x) := by
  induction m with
  | zero => simp [crcBits]
  | succ m ih => rw [show m + 1 + n = (m + n) + 1 from by omega, crcBits, ih, crcBits]
theorem crcT_eq (b : Byte) : crcT b = crcBits 8 (b.setWidth 32) := by
  unfold crcT crcWord
  congr 1
  apply BitVec.eq_of_toNat_eq
  simp
theorem crcT_xor (a b : Byte) : crcT (a ^^^ b) = crcT a ^^^ crcT b := by
  rw [crcT_eq, crcT_eq, crcT_eq, ← crcBits_xor, BitVec.setWidth_xor]
theorem crcStep_eq (s : BitVec 32) (b : Byte) : crcStep crcT s b = crcBits 8 (s ^^^ b.setWidth 32) := by
  have hs : s ^^^ b.setWidth 32 = (s.setWidth 8 ^^^ b).setWidth 32 ^^^ (s ^^^ (s.setWidth 8).setWidth 32) := by
    rw [BitVec.setWidth_xor]
    apply BitVec.eq_of_getLsbD_eq
    intro i hi
    simp only [BitVec.getLsbD_xor]
    cases s.getLsbD i <;> cases (BitVec.setWidth 32 b).getLsbD i <;> cases (BitVec.setWidth 32 (BitVec.setWidth 8 s)).getLsbD i <;> rfl
  rw [hs, crcBits_xor, ← crcT_eq, crcStep]
  congr 1
  rw [crcBits_low]
  · apply BitVec.eq_of_getLsbD_eq
    intro i hi
    simp only [BitVec.getLsbD_ushiftRight, BitVec.getLsbD_xor, BitVec.getLsbD_setWidth]
    have : decide (8 + i < 8) = false := by simp
    simp [this]
  · intro i hi
    simp only [BitVec.getLsbD_xor, BitVec.getLsbD_setWidth]
    have h32 : i < 32 := by omega
    simp [hi, h32]
theorem crcStep_byte (s : BitVec 32) (a b : Byte) : crcStep crcT s a = crcStep crcT s b ↔ a = b := by
  rw [crcStep_eq, crcStep_eq, crcBits_eq]
  constructor
  · intro h
    have h2 : a.setWidth 32 = b.setWidth 32 := by
      have : s ^^^ (s ^^^ a.setWidth 32) = s ^^^ (s ^^^ b.setWidth 32) := by rw [h]
      rwa [← BitVec.xor_assoc, ← BitVec.xor_assoc, BitVec.xor_self, BitVec.zero_xor, BitVec.zero_xor] at this
    have h3 := congrArg (fun v : BitVec 32 => v.setWidth 8) h2
    simpa using h3
  · rintro rfl; rfl
theorem crcStep_state (x y : BitVec 32) (a : Byte) : crcStep crcT x a = crcStep crcT y a ↔ x = y := by
  rw [crcStep_eq, crcStep_eq, crcBits_eq]
  constructor
  · intro h
    have : (x ^^^ a.setWidth 32) ^^^ a.setWidth 32 = (y ^^^ a.setWidth 32) ^^^ a.setWidth 32 := by rw [h]
    rwa [BitVec.xor_assoc, BitVec.xor_assoc, BitVec.xor_self, BitVec.xor_zero, BitVec.xor_zero] at this
  · rintro rfl; rfl
theorem crcStep_xor (s s' : BitVec 32) (a b : Byte) : crcStep crcT (s ^^^ s') (a ^^^ b) = crcStep crcT s a ^^^ crcStep crcT s' b := by
  rw [crcStep_eq, crcStep_eq, crcStep_eq, ← crcBits_xor, BitVec.setWidth_xor]
  congr 1
  apply BitVec.eq_of_getLsbD_eq
  intro i hi
  simp only [BitVec.getLsbD_xor]
  cases s.getLsbD i <;> cases s'.getLsbD i <;> cases (BitVec.setWidth 32 a).getLsbD i <;> cases (BitVec.setWidth 32 b).getLsbD i <;> rfl
theorem crcOn_nil (t : Byte → BitVec 32) (x : BitVec 32) : crcOn t x [] = x := by simp [crcOn]
theorem crcOn_append (t : Byte → BitVec 32) (x : BitVec 32) (a b : List Byte) : crcOn t (crcOn t x a) b = crcOn t x (a ++ b) := by simp [crcOn, List.foldl_append]

/-- Byte by byte. -/
def xors (a b : List Byte) : List Byte := List.zipWith (· ^^^ ·) a b
theorem fold_xors (a b : List Byte) : ∀ (s s' : BitVec 32), a.length = b.length → (xors a b).foldl (crcStep crcT) (s ^^^ s') = a.foldl (crcStep crcT) s ^^^ b.foldl (crcStep crcT) s' := by
  induction a generalizing b with
  | nil => intro s s' h; cases b with
    | nil => rfl
    | cons y b => simp at h
  | cons x a ih => intro s s' h; cases b with
    | nil => simp at h
    | cons y b =>
      simp only [xors, List.zipWith_cons_cons, List.foldl_cons, crcStep_xor]
      exact ih b _ _ (by simpa using h)
theorem crcSum_three (a b c : List Byte) (h1 : a.length = b.length) (h2 : b.length = c.length) : crcSum (xors (xors a b) c) = crcSum a ^^^ crcSum b ^^^ crcSum c := by
  have hx : (xors a b).length = c.length := by simp [xors, h1, h2]
  have e : (~~~ 0#32 : BitVec 32) = (~~~ 0#32 ^^^ ~~~ 0#32) ^^^ ~~~ 0#32 := by decide
  unfold crcSum crcOn
  rw [e, fold_xors _ c _ _ hx, fold_xors a b _ _ h1]
  apply BitVec.eq_of_getLsbD_eq
  intro i hi
  simp only [BitVec.getLsbD_xor, BitVec.getLsbD_not, hi, decide_true, Bool.true_and]
  rw [← e]
  cases (List.foldl (crcStep crcT) (~~~0#32) a).getLsbD i <;> cases (List.foldl (crcStep crcT) (~~~0#32) b).getLsbD i <;> cases (List.foldl (crcStep crcT) (~~~0#32) c).getLsbD i <;> rfl
theorem crcSum_eq (a y : List Byte) (h : y.length = a.length) : crcSum y = crcSum a ↔ (xors y a).foldl (crcStep crcT) 0#32 = 0#32 := by
  have e : (0#32 : BitVec 32) = ~~~ 0#32 ^^^ ~~~ 0#32 := by decide
  conv => rhs; lhs; rw [e]
  rw [fold_xors y a _ _ h, xor_eq_zero]
  unfold crcSum crcOn
  constructor
  · intro h'; have := congrArg (fun v : BitVec 32 => ~~~ v) h'; simpa using this
  · intro h'; rw [h']
theorem fold_zeros (r : Nat) (s : BitVec 32) : (List.replicate r 0#8).foldl (crcStep crcT) s = 0#32 ↔ s = 0#32 := by
  induction r generalizing s with
  | zero => simp
  | succ r ih =>
    rw [List.replicate_succ, List.foldl_cons, ih, show (0#32 : BitVec 32) = crcStep crcT 0#32 0#8 from by decide +kernel, crcStep_state]
    rw [show crcStep crcT 0#32 0#8 = 0#32 from by decide +kernel]
/-- Up to four bytes as one word. -/
def pack : List Byte → BitVec 32
  | [] => 0#32
  | d :: ds => d.setWidth 32 ^^^ (pack ds <<< 8)
theorem pack_high (ds : List Byte) (i : Nat) (h : 8 * ds.length ≤ i) : (pack ds).getLsbD i = false := by
  induction ds generalizing i with
  | nil => simp [pack]
  | cons d ds ih =>
    simp only [List.length_cons] at h
    simp only [pack, BitVec.getLsbD_xor, BitVec.getLsbD_shiftLeft, BitVec.getLsbD_setWidth]
    rw [ih (i - 8) (by omega), BitVec.getLsbD_of_ge d i (by omega)]
    simp
theorem fold_pack (ds : List Byte) (h : ds.length ≤ 4) : ∀ s : BitVec 32, ds.foldl (crcStep crcT) s = crcBits (8 * ds.length) (s ^^^ pack ds) := by
  induction ds with
  | nil => intro s; simp [pack, crcBits]
  | cons d ds ih =>
    intro s
    simp only [List.length_cons] at h
    rw [List.foldl_cons, ih (by omega), crcStep_eq, List.length_cons, show 8 * (ds.length + 1) = 8 * ds.length + 8 from by omega, crcBits_add]
    congr 1
    rw [pack, ← BitVec.xor_assoc, crcBits_xor 8 (s ^^^ d.setWidth 32)]
    congr 1
    rw [crcBits_low]
    · apply BitVec.eq_of_getLsbD_eq
      intro i hi
      simp only [BitVec.getLsbD_ushiftRight, BitVec.getLsbD_shiftLeft]
      by_cases hb : 8 + i < 32
      · simp [hb]
      · simp [hb, pack_high ds i (by omega)]
    · intro i hi
      simp only [BitVec.getLsbD_shiftLeft]
      simp [hi]
theorem pack_zero (ds : List Byte) (h : ds.length ≤ 4) : pack ds = 0#32 ↔ ∀ d ∈ ds, d = 0#8 := by
  induction ds with
  | nil => simp [pack]
  | cons d ds ih =>
    simp only [List.length_cons] at h
    have ih' := ih (by omega)
    simp only [List.mem_cons, forall_eq_or_imp]
    rw [← ih', pack]
    constructor
    · intro e
      have hb : ∀ i, i < 32 → (d.setWidth 32 ^^^ (pack ds <<< 8)).getLsbD i = false := fun i _ => by rw [e]; simp
      refine ⟨BitVec.eq_of_getLsbD_eq fun i hi => ?_, BitVec.eq_of_getLsbD_eq fun i hi => ?_⟩
      · have := hb i (by omega)
        simp only [BitVec.getLsbD_xor, BitVec.getLsbD_shiftLeft, BitVec.getLsbD_setWidth] at this
        have h32 : i < 32 := by omega
        simpa [hi, h32] using this
      · by_cases hl : i + 8 < 32
        · have := hb (i + 8) hl
          simp only [BitVec.getLsbD_xor, BitVec.getLsbD_shiftLeft, BitVec.getLsbD_setWidth] at this
          rw [BitVec.getLsbD_of_ge d (i + 8) (by omega)] at this
          simpa [hl] using this
        · rw [pack_high ds i (by omega)]; simp
    · rintro ⟨rfl, h2⟩
      rw [h2]; decide
/-- A change of up to four bytes somewhere: the sums are one just where nothing has changed. -/
theorem fold_change (k r : Nat) (ds : List Byte) (h : ds.length ≤ 4) : (List.replicate k 0#8 ++ ds ++ List.replicate r 0#8).foldl (crcStep crcT) 0#32 = 0#32 ↔ ∀ d ∈ ds, d = 0#8 := by
  rw [List.foldl_append, fold_zeros, List.foldl_append, (fold_zeros k 0#32).2 rfl, fold_pack ds h, BitVec.zero_xor, ← pack_zero ds h]
  constructor
  · intro e; exact crcBits_inj e
  · intro e; rw [e]; exact crcBits_zero _

end Go.Proofs.YtihljjfnjclefaaDoor
