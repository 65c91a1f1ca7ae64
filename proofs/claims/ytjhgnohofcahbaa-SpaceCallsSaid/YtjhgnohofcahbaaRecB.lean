/- record: the walks through raw, Bytes, bytes.Clone, Fits. -/
import Derived.Test.YtjhgnohofcahbaaRecA
set_option linter.unusedVariables false
set_option linter.unusedSimpArgs false
namespace Go.Proofs.Ytjhgnohofcahbaa
open Go.ChangeShapes Go.WideShapes Go.ChangeAt Go.RowKit
attribute [local go_sem] nb_nonneg nb_lt8 nb_lt64

theorem cells4 {W : World} {g : Nat} {a b c d : Value} {t : TypeId} (h : W.heap[g]? = some (.cells #[a, b, c, d] t (0, 0))) :
    W.cell? ⟨g, 0, none⟩ = some a ∧ W.cell? ⟨g, 1, none⟩ = some b ∧ W.cell? ⟨g, 2, none⟩ = some c ∧ W.cell? ⟨g, 3, none⟩ = some d := by
  refine ⟨?_, ?_, ?_, ?_⟩ <;> (rw [cell_of_row _ _ _ _ _ _ h]; rfl)
theorem box_row {w W : World} {cs : Array Value} {t : TypeId} (hf : FB (w.alloc (.cells cs t)) W) : W.heap[w.heap.size]? = some (.cells cs t (0, 0)) := by
  rw [hf.block w.heap.size (by simp)]; exact heap_alloc_new _ _
theorem load_rec {W : World} {g : Nat} {a b c d : Value} (h : W.heap[g]? = some (.cells #[a, b, c, d] 24 (0, 0))) :
    (Instr.loadAt 24 (.pointer (some ⟨g, 0, none⟩))).run Try.prog W = .ok (.agg #[a, b, c, d]) W := by
  simp only [Instr.loadAt, Instr.sureAddr, Sem.run_bind, Sem.run_pure, Result.andThen]
  exact run_loadVar_row W g _ _ _ _ _ h Try.underlying24 rfl (by kernel_rfl)
/-- The bytes of a record. -/
def recRaw (ks : List Byte) (over size : BitVec 64) (vs : List Byte) : List Byte := oblock ks ++ (onum over ++ (onum size ++ vs))
theorem recRaw_len (ks : List Byte) (over size : BitVec 64) (vs : List Byte) : (recRaw ks over size vs).length ≤ ks.length + vs.length + 30 := by
  unfold recRaw oblock
  simp only [List.length_append]
  have := onum_len10 (BitVec.ofNat 64 ks.length)
  have := onum_len10 over
  have := onum_len10 size
  omega
set_option maxRecDepth 100000 in
set_option maxHeartbeats 1000000 in
theorem rec_raw (A : Option Addr) (n c : Nat) (over size : BitVec 64) (zo zs : Int) (B : Option Addr) (m d : Nat) (ks vs : List Byte) (w : World) (hn : n = ks.length) (hm : m = vs.length) (hzo : IntKind.u64.wrap zo = nb over) (hzs : IntKind.u64.wrap zs = nb size) (hk : ks.length ≤ 100000000000) (hv : vs.length ≤ 100000000000) (hr : Rd w A ks) (hq : Rd w B vs) :
    Calls Try.prog 51 #[recV A n c zo zs B m d] w fun e w' => ∃ v, e = .returned v ∧ Own w' w.heap.size v (recRaw ks over size vs) ∧ FB w w' := by
  subst hn hm
  have HR := Lib.hid hr
  have HQ := Lib.hid hq
  have H1 := Lib.hid (onum_len10 (BitVec.ofNat 64 ks.length))
  have H2 := Lib.hid (onum_len10 over)
  have H3 := Lib.hid (onum_len10 size)
  clear hr hq
  unfold recV
  go_enter Try.func51, Try.ntmps51
  go_wp2_with fail
  refine (oct_Block [] ks none A 0 0 _ c _ rfl rfl (by simp) (by omega) (Rd.nil _ _) (HR.out.alloc _)).mono ?_
  rintro e w1 ⟨v1, rfl, ho, hb⟩
  rw [List.nil_append] at ho
  have HF1 := Lib.hid (show FB w w1 from ((FB.refl w).alloc _).call hb)
  have HBX1 := Lib.hid (show FB (w.alloc (.cells #[.slice A ks.length c, .int .i64 zo, .int .i64 zs, .slice B vs.length d] 24)) w1 from hb)
  obtain ⟨b0, b1, b2, b3⟩ := cells4 (box_row HBX1.out)
  obtain ⟨A1, c1, rfl, -, -, hr1, -⟩ := Own.form ho
  have HR1 := Lib.hid hr1
  clear ho hb hr1
  go_wp2_with fail
  refine (oct_Number (oblock ks) A1 _ c1 over _ rfl (by have := H1.out; unfold oblock; rw [List.length_append]; omega) HR1.out).mono ?_
  rintro e w2 ⟨v2, rfl, ho, hb⟩
  have HF2 := Lib.hid (HF1.out.call hb)
  have HBX2 := Lib.hid (HBX1.out.call hb)
  obtain ⟨A2, c2, rfl, -, -, hr2, -⟩ := Own.form ho
  have HR2 := Lib.hid hr2
  clear ho hb hr2 b0 b1 b2 b3
  obtain ⟨b0, b1, b2, b3⟩ := cells4 (box_row HBX2.out)
  go_wp2_with fail
  refine (oct_Number (oblock ks ++ onum over) A2 _ c2 size _ (by simp only [List.length_append]) (by have := H1.out; have := H2.out; unfold oblock; rw [List.length_append, List.length_append]; omega) HR2.out).mono ?_
  rintro e w3 ⟨v3, rfl, ho, hb⟩
  have HF3 := Lib.hid (HF2.out.call hb)
  have HBX3 := Lib.hid (HBX2.out.call hb)
  have HO3 := Lib.hid (Own.lower ho HF2.out.le)
  clear ho hb b0 b1 b2 b3
  obtain ⟨b0, b1, b2, b3⟩ := cells4 (box_row HBX3.out)
  go_wp2_with (at_builtin; refine wpList_append_bytes rfl _ _ rfl w.heap.size _ _ HO3.out rfl B d vs rfl (HF3.out.rd HQ.out) (by have := H1.out; have := H2.out; have := H3.out; unfold oblock; rw [List.length_append, List.length_append, List.length_append]; omega) HF3.out.le ?_; intro v' w4 ho hg _; have HO4 := Lib.hid ho; have HG4 := Lib.hid hg; clear ho hg)
  go_ret
  refine ⟨_, rfl, ?_, HF3.out.grown HG4.out (Own.bnd HO3.out)⟩
  have ho := HO4.out
  rw [List.append_assoc, List.append_assoc] at ho
  exact ho
set_option maxRecDepth 100000 in
set_option maxHeartbeats 1000000 in
/-- A record that may be, as bytes. -/
theorem rec_Bytes_ok (A : Option Addr) (n c : Nat) (over size : BitVec 64) (zo zs : Int) (B : Option Addr) (m d : Nat) (ks vs : List Byte) (w : World) (hn : n = ks.length) (hm : m = vs.length) (hzo : zo = nb over) (hzs : zs = nb size) (hr : Rd w A ks) (hq : Rd w B vs) (hc : rcheck n zo zs m = 0) :
    Calls Try.prog 15 #[recV A n c zo zs B m d] w fun e w' => ∃ v, e = .returned (.tuple #[v, .int .i64 0]) ∧ Own w' w.heap.size v (recRaw ks over size vs) ∧ FB w w' := by
  have hb : n ≤ 512 ∧ zs ≤ 131072 ∧ zo ≤ 65536 ∧ (m : Int) ≤ 131072 := by
    unfold rcheck at hc
    split at hc
    · cases hc
    · refine ⟨by omega, by omega, by omega, ?_⟩
      split at hc
      · split at hc
        · omega
        · cases hc
      · split at hc
        · omega
        · cases hc
  have hn0 := nb_nonneg over
  have hs0 := nb_nonneg size
  have HR := Lib.hid hr
  have HQ := Lib.hid hq
  have HC := Lib.hid (fun W => show Calls Try.prog 16 #[recV A n c zo zs B m d] W fun e w' => e = .returned (.int .i64 0) ∧ FB W w' from by rw [← hc]; exact rec_Check A n c zo zs B m d W)
  have HW := Lib.hid (fun W (h1 : Rd W A ks) (h2 : Rd W B vs) => rec_raw A n c over size zo zs B m d ks vs W hn hm (by rw [hzo, wrap_u64]; omega) (by rw [hzs, wrap_u64]; omega) (by omega) (by omega) h1 h2)
  clear hr hq hc hb hn0 hs0 hn hm hzo hzs
  unfold recV at *
  go_enter Try.func15, Try.ntmps15
  go_wp2_with fail
  refine (HC.out _).mono ?_
  rintro e w1 ⟨rfl, hf⟩
  have HB1 := Lib.hid hf
  have HF1 := Lib.hid (((FB.refl w).alloc (.cells #[.slice A n c, .int .i64 zo, .int .i64 zs, .slice B m d] 24)).trans hf)
  clear hf
  have hl := load_rec (box_row HB1.out)
  go_wp2_with (refine wpList_load_by rfl _ _ rfl _ hl ?_)
  refine (HW.out _ (HF1.out.rd HR.out) (HF1.out.rd HQ.out)).mono ?_
  rintro e w2 ⟨v2, rfl, ho, hf⟩
  have HO2 := Lib.hid (Own.lower ho HF1.out.le)
  have HF2 := Lib.hid (HF1.out.trans hf)
  clear ho hf hl
  go_wp2
  go_ret2
  exact ⟨_, rfl, HO2.out, HF2.out⟩
set_option maxRecDepth 100000 in
set_option maxHeartbeats 1000000 in
/-- A record that may not be. -/
theorem rec_Bytes_bad (A : Option Addr) (n c : Nat) (zo zs : Int) (B : Option Addr) (m d : Nat) (w : World) (hc : rcheck n zo zs m ≠ 0) :
    Calls Try.prog 15 #[recV A n c zo zs B m d] w fun e w' => e = .returned (.tuple #[.slice none 0 0, .int .i64 2]) ∧ FB w w' := by
  have hc2 : rcheck n zo zs m = 2 := by
    unfold rcheck at *
    split
    · rfl
    · rename_i h; rw [if_neg h] at hc
      split
      · rename_i h2; rw [if_pos h2] at hc
        split
        · rename_i h3; rw [if_pos h3] at hc; exact absurd rfl hc
        · rfl
      · rename_i h2; rw [if_neg h2] at hc
        split
        · rename_i h3; rw [if_pos h3] at hc; exact absurd rfl hc
        · rfl
  have HC := Lib.hid (fun W => show Calls Try.prog 16 #[recV A n c zo zs B m d] W fun e w' => e = .returned (.int .i64 2) ∧ FB W w' from by rw [← hc2]; exact rec_Check A n c zo zs B m d W)
  clear hc hc2
  unfold recV at *
  go_enter Try.func15, Try.ntmps15
  go_wp2_with fail
  refine (HC.out _).mono ?_
  rintro e w1 ⟨rfl, hf⟩
  have HF1 := Lib.hid (((FB.refl w).alloc (.cells #[.slice A n c, .int .i64 zo, .int .i64 zs, .slice B m d] 24)).trans hf)
  clear hf
  go_wp2
  go_ret2
  exact ⟨rfl, HF1.out⟩
set_option maxRecDepth 100000 in
set_option maxHeartbeats 400000 in
theorem bytes_Clone (xs : List Byte) (A : Option Addr) (n c : Nat) (w : World) (hn : n = xs.length) (hm : xs.length ≤ 100000000000) (hr : Rd w A xs) :
    Calls Try.prog 53 #[.slice A n c] w fun e w' => ∃ v, e = .returned v ∧ Own w' w.heap.size v xs ∧ FB w w' := by
  subst hn
  have HR := Lib.hid hr
  cases A with
  | none =>
    have hx : xs = [] := by
      cases xs with
      | nil => rfl
      | cons y ys => obtain ⟨b, o, e, _⟩ := hr 0 (by simp [vbs]); cases e
    subst hx
    clear hr
    have hnil : ∀ W, (binOp .eql 22 (.slice none 0 c) (.slice none 0 0)).run Try.prog W = .ok (.bool true) W := fun W => Lib.run_eql_slice_nil W 22 5 none 0 c 0 0 Try.underlying22
    go_enter Try.func53, Try.ntmps53
    go_wp2
    go_ret
    exact ⟨_, rfl, Own.nil _ _, FB.refl _⟩
  | some ad =>
    clear hr
    have hnil : ∀ W, (binOp .eql 22 (.slice (some ad) xs.length c) (.slice none 0 0)).run Try.prog W = .ok (.bool false) W := fun W => Lib.run_eql_slice_nil W 22 5 (some ad) xs.length c 0 0 Try.underlying22
    go_enter Try.func53, Try.ntmps53
    go_wp2_with (at_builtin; refine wpList_append_bytes rfl _ _ rfl w.heap.size _ [] (OwnV.lit _ w [] (by simp)) rfl (some ad) c xs rfl (HR.out.alloc _) (by simp; omega) (by simp) ?_; intro v' w1 ho hg _; have HO := Lib.hid ho; have HG := Lib.hid hg; clear ho hg)
    go_ret
    have ho := HO.out
    rw [List.nil_append] at ho
    exact ⟨_, rfl, ho, ((FB.refl w).alloc _).grown HG.out (by simp [Value.ownBlock])⟩
/-- Does a value fit beside its key? -/
def recFits (ks vs : List Byte) : Bool := decide (1 ≤ ks.length ∧ ks.length ≤ 512) && decide (vs.length ≤ 131072) && decide ((recRaw ks 0#64 (BitVec.ofNat 64 vs.length) vs).length ≤ 1024)
set_option maxRecDepth 100000 in
set_option maxHeartbeats 1000000 in
theorem rec_Fits (ks vs : List Byte) (A B : Option Addr) (n c m d : Nat) (w : World) (hn : n = ks.length) (hm : m = vs.length) (hr : Rd w A ks) (hq : Rd w B vs) :
    Calls Try.prog 18 #[.slice A n c, .slice B m d] w fun e w' => e = .returned (.bool (recFits ks vs)) ∧ FB w w' := by
  subst hn hm
  have HR := Lib.hid hr
  have HQ := Lib.hid hq
  clear hr hq
  unfold recFits
  by_cases h1 : 1 ≤ ks.length ∧ ks.length ≤ 512
  · rw [decide_eq_true h1]
    have HKEY := Lib.hid (fun W => show Calls Try.prog 52 #[.slice A ks.length c] W fun e w' => e = .returned (.bool true) ∧ W = w' from by have := rec_key A ks.length c W; rw [decide_eq_true h1] at this; exact this)
    by_cases h2 : vs.length ≤ 131072
    · rw [decide_eq_true h2]
      have hd2 : decide ((vs.length : Int) ≤ 131072) = true := by simp; omega
      have HW := Lib.hid (fun W (k1 : Rd W A ks) (k2 : Rd W B vs) => show Calls Try.prog 51 #[.agg #[.slice A ks.length c, .int .i64 0, .int .i64 vs.length, .slice B vs.length d]] W _ from rec_raw A _ c 0#64 (BitVec.ofNat 64 vs.length) 0 vs.length B _ d ks vs W rfl rfl (by rw [nb_zero]; rfl) (by rw [len64 _ (by omega), wrap_u64]; omega) (by omega) (by omega) k1 k2)
      have HFS := Lib.hid (show (decide (((recRaw ks 0#64 (BitVec.ofNat 64 vs.length) vs).length : Int) ≤ 1024)) = decide ((recRaw ks 0#64 (BitVec.ofNat 64 vs.length) vs).length ≤ 1024) from by rw [decide_eq_decide]; omega)
      clear h1
      generalize (recRaw ks 0#64 (BitVec.ofNat 64 vs.length) vs) = raw at *
      go_enter Try.func18, Try.ntmps18
      go_wp2_with fail
      refine (HKEY.out _).mono ?_
      rintro e w1 ⟨rfl, rfl⟩
      go_wp2_with fail
      refine (HW.out _ HR.out HQ.out).mono ?_
      rintro e w1 ⟨v1, rfl, ho, hf⟩
      obtain ⟨A1, c1, rfl, -, -, -, -⟩ := Own.form ho
      have HF1 := Lib.hid hf
      clear ho hf
      go_wp2
      go_ret
      exact ⟨by rw [← HFS.out]; simp, HF1.out⟩
    · rw [decide_eq_false h2]
      have hd2 : decide ((vs.length : Int) ≤ 131072) = false := by simp; omega
      clear h1 h2
      go_enter Try.func18, Try.ntmps18
      go_wp2_with fail
      refine (HKEY.out _).mono ?_
      rintro e w1 ⟨rfl, rfl⟩
      go_wp2
      go_ret
      exact ⟨by simp, FB.refl _⟩
  · rw [decide_eq_false h1]
    have HKEY := Lib.hid (fun W => show Calls Try.prog 52 #[.slice A ks.length c] W fun e w' => e = .returned (.bool false) ∧ W = w' from by have := rec_key A ks.length c W; rw [decide_eq_false h1] at this; exact this)
    clear h1
    go_enter Try.func18, Try.ntmps18
    go_wp2_with fail
    refine (HKEY.out _).mono ?_
    rintro e w1 ⟨rfl, rfl⟩
    go_wp2
    go_ret
    exact ⟨by simp, FB.refl _⟩
end Go.Proofs.Ytjhgnohofcahbaa
