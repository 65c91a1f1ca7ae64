/- record: the walks through Compare, Hash, tallymankit.Record, lives. -/
import Derived.Test.YtjhgnohofcahbaaRecD
import Derived.Lib.Bytealg
set_option linter.unusedVariables false
set_option linter.unusedSimpArgs false
namespace Go.Proofs.Ytjhgnohofcahbaa
open Go.ChangeShapes Go.WideShapes Go.ChangeAt Go.RowKit
attribute [local go_sem] nb_nonneg nb_lt8 nb_lt64

/-- Byte by byte: -1, 0, 1. -/
def bcmp : List Byte → List Byte → Int
  | [], [] => 0
  | [], _ :: _ => -1
  | _ :: _, [] => 1
  | a :: ps, b :: qs => if a < b then -1 else if b < a then 1 else bcmp ps qs
theorem bcmp_eq : ∀ xs ys : List Byte, Lib.compareBytes (xs.map UInt8.ofBitVec) (ys.map UInt8.ofBitVec) = bcmp xs ys
  | [], [] => rfl
  | [], _ :: _ => rfl
  | _ :: _, [] => rfl
  | a :: ps, b :: qs => by
    rw [List.map_cons, List.map_cons, Lib.compareBytes, bcmp, bcmp_eq ps qs]
    rfl
theorem bcmp_range : ∀ xs ys : List Byte, bcmp xs ys = -1 ∨ bcmp xs ys = 0 ∨ bcmp xs ys = 1
  | [], [] => .inr (.inl rfl)
  | [], _ :: _ => .inl rfl
  | _ :: _, [] => .inr (.inr rfl)
  | a :: ps, b :: qs => by
    rw [bcmp]; split
    · exact .inl rfl
    · split
      · exact .inr (.inr rfl)
      · exact bcmp_range ps qs
theorem bcmp_swap : ∀ xs ys : List Byte, bcmp xs ys = - bcmp ys xs
  | [], [] => rfl
  | [], _ :: _ => rfl
  | _ :: _, [] => rfl
  | a :: ps, b :: qs => by
    rw [bcmp, bcmp]
    by_cases h1 : a < b
    · have h2 : ¬ b < a := by rw [BitVec.lt_def] at *; omega
      rw [if_pos h1, if_neg h2, if_pos h1]
    · by_cases h2 : b < a
      · rw [if_neg h1, if_pos h2, if_pos h2]; rfl
      · rw [if_neg h1, if_neg h2, if_neg h2, if_neg h1]; exact bcmp_swap ps qs
theorem bcmp_zero : ∀ xs ys : List Byte, bcmp xs ys = 0 ↔ xs = ys
  | [], [] => by simp [bcmp]
  | [], _ :: _ => by simp [bcmp]
  | _ :: _, [] => by simp [bcmp]
  | a :: ps, b :: qs => by
    rw [bcmp]
    by_cases h1 : a < b
    · rw [if_pos h1]; refine ⟨fun h => absurd h (by decide), fun h => ?_⟩
      simp at h; rw [h.1, BitVec.lt_def] at h1; omega
    · by_cases h2 : b < a
      · rw [if_neg h1, if_pos h2]; refine ⟨fun h => absurd h (by decide), fun h => ?_⟩
        simp at h; rw [h.1, BitVec.lt_def] at h2; omega
      · rw [if_neg h1, if_neg h2, bcmp_zero ps qs]
        have : a = b := BitVec.eq_of_toNat_eq (by rw [BitVec.lt_def] at *; omega)
        simp [this]
/-- Not after, and then not after: not after; where one of them is before, before. -/
theorem bcmp_trans : ∀ xs ys zs : List Byte, bcmp xs ys ≤ 0 → bcmp ys zs ≤ 0 → bcmp xs zs ≤ 0 ∧ (bcmp xs ys < 0 → bcmp xs zs < 0)
  | [], ys, [], h1, h2 => by
    cases ys with
    | nil => exact ⟨by decide, fun h => by cases h⟩
    | cons b qs => simp [bcmp] at h2
  | [], ys, _ :: _, h1, h2 => ⟨by simp [bcmp], fun _ => by simp [bcmp]⟩
  | a :: ps, [], zs, h1, h2 => by simp [bcmp] at h1
  | a :: ps, b :: qs, [], h1, h2 => by simp [bcmp] at h2
  | a :: ps, b :: qs, c :: rs, h1, h2 => by
    simp only [bcmp] at h1 h2 ⊢
    by_cases k1 : a < b
    · by_cases k2 : b < c
      · have : a < c := by rw [BitVec.lt_def] at *; omega
        simp [this]
      · rw [if_neg k2] at h2
        by_cases k3 : c < b
        · rw [if_pos k3] at h2; simp at h2
        · have : a < c := by rw [BitVec.lt_def] at *; omega
          simp [this]
    · rw [if_neg k1] at h1 ⊢
      by_cases k4 : b < a
      · rw [if_pos k4] at h1; simp at h1
      · rw [if_neg k4] at h1 ⊢
        have hab : a = b := BitVec.eq_of_toNat_eq (by rw [BitVec.lt_def] at *; omega)
        subst hab
        by_cases k2 : a < c
        · simp [k2]
        · rw [if_neg k2] at h2 ⊢
          by_cases k3 : c < a
          · rw [if_pos k3] at h2; simp at h2
          · rw [if_neg k3] at h2 ⊢
            exact bcmp_trans ps qs rs h1 h2
theorem run_loadBytes {w : World} {b : Nat} : ∀ (xs : List Byte) (o : Nat) (acc : ByteArray), (∀ i, (hi : i < xs.length) → w.cell? ⟨b, o + i, none⟩ = some (vb xs[i])) →
    (Extern.Bytes.loadBytes ⟨b, o, none⟩ xs.length acc).run Try.prog w = .ok ⟨(acc.data.toList ++ xs.map UInt8.ofBitVec).toArray⟩ w
  | [], o, acc, h => by simp [Extern.Bytes.loadBytes]
  | x :: xs, o, acc, h => by
    have h0 := h 0 (by simp)
    simp only [List.length_cons, Extern.Bytes.loadBytes]
    have hadd : (⟨b, o, none⟩ : Addr).add 1 = ⟨b, o + 1, none⟩ := by unfold Addr.add; split <;> simp_all
    rw [hadd]
    have ih := run_loadBytes xs (o + 1) (acc.push ((nb x).toNat.toUInt8)) (fun i hi => by have := h (i + 1) (by simp; omega); rw [show o + (i + 1) = o + 1 + i by omega] at this; simpa using this)
    simp at h0
    simp [go_sem, h0, vb, ih]
    simp [nb]
theorem run_bytesOf {w : World} {A : Option Addr} {xs : List Byte} (c : Nat) (hr : Rd w A xs) : (Extern.Bytes.bytesOf (.slice A xs.length c)).run Try.prog w = .ok (sb xs) w := by
  cases A with
  | none =>
    have hx : xs = [] := by
      cases xs with
      | nil => rfl
      | cons y ys => obtain ⟨b, o, e, _⟩ := hr 0 (by simp [vbs]); cases e
    subst hx
    rfl
  | some ad =>
    cases xs with
    | nil => rfl
    | cons y ys =>
      obtain ⟨b, o, e, hb, hcell⟩ := hr.form (by simp)
      cases e
      simp only [Extern.Bytes.bytesOf]
      rw [run_loadBytes (y :: ys) o .empty (fun i hi => by have := hcell i hi; simpa using this)]
      rfl
theorem run_bcompare {w : World} {A B : Option Addr} {xs ys : List Byte} (c d : Nat) (hr : Rd w A xs) (hq : Rd w B ys) : (Extern.BytealgCompare.compare #[.slice A xs.length c, .slice B ys.length d]).run Try.prog w = .ok (.int .i64 (bcmp xs ys)) w := by
  change Sem.run _ (do pure (goInt (Extern.BytealgCompare.cmp (← Extern.Bytes.bytesOf (.slice A xs.length c)) (← Extern.Bytes.bytesOf (.slice B ys.length d))))) w = _
  simp only [Sem.run_bind, run_bytesOf c hr, run_bytesOf d hq, Sem.run_pure, Result.andThen]
  rw [Lib.cmp_eq, ← bcmp_eq]
  simp [sb, goInt]
set_option maxRecDepth 100000 in
set_option maxHeartbeats 1000000 in
theorem bytes_Compare (A B : Option Addr) (c d : Nat) (xs ys : List Byte) (w : World) (hr : Rd w A xs) (hq : Rd w B ys) :
    Calls Try.prog 54 #[.slice A xs.length c, .slice B ys.length d] w fun e w' => e = .returned (.int .i64 (bcmp xs ys)) ∧ w = w' := by
  have hcm := run_bcompare c d hr hq
  clear hr hq
  go_enter Try.func54, Try.ntmps54
  go_wp2
  rw [run_callFunc_extern Try.func77 (by kernel_rfl) (by kernel_rfl) (by kernel_rfl) (e := Extern.BytealgCompare.compare) (by kernel_rfl), hcm]
  simp only [Result.andThen]
  rw [Oper.upon_value]
  go_wp2
  go_ret
  exact ⟨rfl, rfl⟩
set_option maxRecDepth 100000 in
set_option maxHeartbeats 1000000 in
theorem rec_Compare (A B : Option Addr) (c d : Nat) (xs ys : List Byte) (w : World) (hr : Rd w A xs) (hq : Rd w B ys) :
    Calls Try.prog 21 #[.slice A xs.length c, .slice B ys.length d] w fun e w' => e = .returned (.int .i64 (bcmp xs ys)) ∧ w = w' := by
  have HC := Lib.hid (bytes_Compare A B c d xs ys w hr hq)
  clear hr hq
  go_enter Try.func21, Try.ntmps21
  go_wp2_with fail
  refine HC.out.mono ?_
  rintro e w1 ⟨rfl, rfl⟩
  go_wp2
  go_ret
  exact ⟨rfl, rfl⟩
theorem rd_a1 (w : World) (t : TypeId) (g : Nat) (hg : g = w.heap.size) : Rd (w.alloc (.cells #[.int .u8 97] t (1, 2))) (some ⟨g, 0, none⟩) [97#8] := RdV.litF w (vbs [97#8]) t (1, 2) hg
theorem rd_12r (w : World) (t : TypeId) (g : Nat) (hg : g = w.heap.size) : Rd (w.alloc (.cells #[.int .u8 1, .int .u8 2] t)) (some ⟨g, 0, none⟩) [1#8, 2#8] := RdV.lit w (vbs [1#8, 2#8]) t hg
theorem rd_1a52 (w : World) (t : TypeId) (g : Nat) (hg : g = w.heap.size) : Rd (w.alloc (.cells #[.int .u8 1, .int .u8 97, .int .u8 5, .int .u8 2] t)) (some ⟨g, 0, none⟩) [1#8, 97#8, 5#8, 2#8] := RdV.lit w (vbs [1#8, 97#8, 5#8, 2#8]) t hg
theorem raw_a12 : recRaw [97#8] 0#64 2#64 [1#8, 2#8] = [1#8, 97#8, 0#8, 2#8, 1#8, 2#8] := by
  unfold recRaw oblock
  rw [onum_lt (by decide), onum_lt (by decide), onum_lt (by decide)]; rfl
theorem bytes_a12 (w : World) (A B : Option Addr) (c d : Nat) (hr : Rd w A [97#8]) (hq : Rd w B [1#8, 2#8]) :
    Calls Try.prog 15 #[.agg #[.slice A 1 c, .int .i64 0, .int .i64 2, .slice B 2 d]] w fun e w' => ∃ A c, e = .returned (.tuple #[.slice A 6 c, .int .i64 0]) ∧ Rd w' A [1#8, 97#8, 0#8, 2#8, 1#8, 2#8] ∧ FB w w' := by
  refine (rec_Bytes_ok A 1 c 0#64 2#64 0 2 B 2 d [97#8] [1#8, 2#8] w rfl rfl (by rw [nb_zero]) rfl hr hq (by decide)).mono fun e w' ⟨v, h1, h2, h3⟩ => ?_
  rw [raw_a12] at h2
  obtain ⟨A, c, rfl, -, -, h4, -⟩ := Own.form h2
  exact ⟨A, c, h1, h4, h3⟩
theorem rdK_1 : rdK [1#8, 97#8, 5#8, 2#8] = ([97#8], 2, 0) := by
  unfold rdK sblk rblk
  rw [if_pos rfl, show rnum (List.drop 0 [1#8, 97#8, 5#8, 2#8]) 0 0#64 = .inr (1#64, 1) from by decide]
  rfl
theorem rdO_1 : rdO [1#8, 97#8, 5#8, 2#8] = (5#64, 3, 0) := by
  unfold rdO supto rupto
  rw [rdK_1]
  simp only
  rw [if_pos trivial, show rnum (List.drop 2 [1#8, 97#8, 5#8, 2#8]) 0 0#64 = .inr (5#64, 1) from by decide]
  rfl
theorem rdS_1 : rdS [1#8, 97#8, 5#8, 2#8] = (2#64, 4, 0) := by
  unfold rdS supto rupto
  rw [rdO_1]
  simp only
  rw [if_pos trivial, show rnum (List.drop 3 [1#8, 97#8, 5#8, 2#8]) 0 0#64 = .inr (2#64, 1) from by decide]
  rfl
theorem rdV_1 : rdV [1#8, 97#8, 5#8, 2#8] = ([], 4, 0) := by
  unfold rdV
  rw [rdO_1, rdS_1]; rfl
theorem rdOk_1 : rdOk [1#8, 97#8, 5#8, 2#8] := by
  unfold rdOk rdE
  rw [rdK_1, rdO_1, rdS_1, rdV_1]
  exact ⟨by decide, by decide⟩
theorem read_1 (w : World) (A : Option Addr) (c : Nat) (hr : Rd w A [1#8, 97#8, 5#8, 2#8]) :
    Calls Try.prog 13 #[.slice A 4 c] w fun e w' => ∃ A c B d, e = .returned (.tuple #[.agg #[.slice A 1 c, .int .i64 5, .int .i64 2, .slice B 0 d], .int .i64 0]) ∧ Rd w' A [97#8] ∧ FB w w' := by
  refine (rec_Read [1#8, 97#8, 5#8, 2#8] A 4 c w rfl (by simp) hr).mono fun e w' h => ?_
  rcases h with ⟨-, A, c, B, d, h1, h2, h3, h4, -⟩ | ⟨h, -⟩
  · rw [rdK_1, rdO_1, rdS_1, rdV_1] at h1
    rw [rdK_1] at h2
    exact ⟨A, c, B, d, h1, h2, h4⟩
  · exact absurd rdOk_1 h
set_option maxRecDepth 100000 in
set_option maxHeartbeats 1000000 in
theorem rec_lives (w : World) : Calls Try.prog 12 #[] w fun e w' => e = .returned (.bool true) ∧ FB w w' := by
  have hcv := conv_const
  go_enter Try.func12, Try.ntmps12
  go_wp2_with fail
  refine (bytes_a12 _ _ _ _ _ ((rd_a1 _ _ _ rfl).alloc _) (rd_12r _ _ _ (by simp))).mono ?_
  rintro e w1 ⟨A1, c1, rfl, hr, hf⟩
  have HF1 := Lib.hid ((((FB.refl w).alloc _).alloc _).trans hf)
  have HR1 := Lib.hid hr
  clear hr hf
  go_wp2_with fail
  refine (read_1 _ _ _ (rd_1a52 _ _ _ (by simp))).mono ?_
  rintro e w2 ⟨A2, c2, B2, d2, rfl, hr, hf⟩
  have HF2 := Lib.hid ((HF1.out.alloc _).trans hf)
  have HK2 := Lib.hid (((FB.refl w1).alloc _).trans hf)
  have HR12 := Lib.hid (HK2.out.rd HR1.out)
  have HR2 := Lib.hid hr
  have hs1 : ∀ o, (convert 22 9 (.slice A1 6 c1)).run Try.prog (w2.alloc o) = .ok (.string { data := #[1, 97, 0, 2, 1, 2] }) (w2.alloc o) := fun o => run_string c1 (HR12.out.alloc o)
  have hs2 : ∀ o, (convert 22 9 (.slice A2 1 c2)).run Try.prog (w2.alloc o) = .ok (.string { data := #[97] }) (w2.alloc o) := fun o => run_string c2 (HR2.out.alloc o)
  clear hr hf
  go_wp2
  go_ret
  exact ⟨rfl, HF2.out.alloc _⟩
end Go.Proofs.Ytjhgnohofcahbaa
