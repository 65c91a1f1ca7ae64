/- The walks through Number, Word, Block, Size, of octet and of the document's answer. -/
import Derived.Test.YtihljjfnjclefaaDoorOctA
set_option linter.unusedVariables false
set_option linter.unusedSimpArgs false
namespace Go.Proofs.YtihljjfnjclefaaDoor
open Go.ChangeShapes Go.WideShapes Go.ChangeAt Go.RowKit
attribute [local go_sem] nb_mod8 bits_or8l nb_shr_7 nb_shr_8 nb_nonneg nb_lt64

theorem ge128 {n : BitVec 64} (h : 128#64 ≤ n) : (128 : Int) ≤ nb n := by
  unfold nb; have : 128 ≤ n.toNat := by simpa [BitVec.le_def] using h
  omega
theorem lt128 {n : BitVec 64} (h : ¬ 128#64 ≤ n) : nb n < 128 := by
  unfold nb; have : ¬ 128 ≤ n.toNat := by simpa [BitVec.le_def] using h
  omega
theorem shr7_lt {n : BitVec 64} (h : 128#64 ≤ n) : (n >>> 7).toNat < n.toNat := by
  have : 128 ≤ n.toNat := by simpa [BitVec.le_def] using h
  rw [BitVec.toNat_ushiftRight, Nat.shiftRight_eq_div_pow]; omega

theorem seven8 : ∀ x : BitVec 8, (x ||| 128#8).toNat = 128 + x.toNat % 128 := by decide
theorem seven_byte (n : BitVec 64) : 128 + nb n % 128 = nb (n.setWidth 8 ||| 128#8) := by
  have h := seven8 (n.setWidth 8)
  rw [BitVec.toNat_setWidth] at h
  unfold nb
  rw [h]
  omega

/-! ### Word -/
set_option maxRecDepth 100000 in
set_option maxHeartbeats 400000 in
theorem ref_Word (xs : List Byte) (A : Option Addr) (n c : Nat) (m : BitVec 64) (z : Int) (w : World) (hn : n = xs.length) (hm : xs.length ≤ 100000000000000) (hr : Rd w A xs) (hz : z = 2 ∨ z = 4 ∨ z = 8) :
    Calls Tryd.prog 45 #[.slice A n c, .int .u64 (nb m), .int .i64 z] w fun e w' => ∃ v, e = .returned v ∧ Own w' w.heap.size v (xs ++ owordZ z m) ∧ Below w.heap.size w w' := by
  subst hn
  have HR := Lib.hid hr
  clear hr
  obtain ⟨q, rfl, hq, hqq⟩ : ∃ q : Nat, z = q ∧ owordZ z m = oword q m ∧ (q = 2 ∨ q = 4 ∨ q = 8) := by
    rcases hz with rfl | rfl | rfl
    · exact ⟨2, rfl, by simp [owordZ], by omega⟩
    · exact ⟨4, rfl, by simp [owordZ], by omega⟩
    · exact ⟨8, rfl, by simp [owordZ], by omega⟩
  rw [hq]
  have hq8 : q ≤ 8 := by omega
  have hb : (((q : Int) != 2) = false ∨ (((q : Int) != 2) = true ∧ ((q : Int) != 4) = false) ∨ (((q : Int) != 2) = true ∧ ((q : Int) != 4) = true ∧ ((q : Int) != 8) = false)) := by
    rcases hqq with rfl | rfl | rfl <;> simp
  clear hq hz hqq
  rcases hb with h1 | ⟨h1, h2⟩ | ⟨h1, h2, h3⟩
  all_goals
    go_enter Tryd.func45, Tryd.ntmps45
    go_wp2_with (at_builtin; refine wpList_append_bytes rfl _ _ rfl w.heap.size _ [] (OwnV.lit _ w [] (by simp)) rfl A c xs rfl (HR.out.alloc _) (by simp; omega) (by simp) ?_; intro v' w1 ho hg _; have HO0 := Lib.hid ho; have HG0 := Lib.hid hg; clear ho hg)
    have HB0 := Lib.hid (show FB w w1 from ((FB.refl w).alloc _).grown HG0.out (by simp [Value.ownBlock]))
    clear HG0
    go_loopw [7, 8] (fun v i wr => ∃ k : Nat, k ≤ q ∧ i = .int .i64 k ∧ Hid (Own wr w.heap.size v (xs ++ oword k m)) ∧ Hid (FB w wr)) (fun _ i _ => q - (intOf i).toNat)
    case atStart => exact ⟨0, by omega, rfl, Lib.hid (by have := HO0.out; rw [List.nil_append] at this; simpa [oword] using this), HB0.out⟩
    case round =>
      obtain ⟨k, hk, rfl, HO, HF⟩ := hrel
      by_cases hlt : k < q
      · have HS := Lib.hid (oword_succ k m)
        have hl := oword_len k m
        have HL := Lib.hid hl
        have hsh : (nb m / 2 ^ (8 * k)) % 256 = nb ((m >>> (8 * k)).setWidth 8) := by
          rw [← nb_mod8]; congr 1
          have := nb_shr m (8 * k)
          rw [← this]; simp
        clear hl
        go_wp2_with (at_builtin; refine wpList_append_bytes rfl _ _ rfl w.heap.size _ (xs ++ oword k m) (HO.out.alloc _) rfl (some ⟨wr.heap.size, 0, none⟩) 1 [(m >>> (8 * k)).setWidth 8] rfl (RdV.lit wr (vbs [(m >>> (8 * k)).setWidth 8]) _) (by simp [HL.out]; omega) (Nat.le_trans HF.out.le (by simp)) ?_; intro v' w2 ho hg _; have HO2 := Lib.hid ho; have HG := Lib.hid hg; clear ho hg)
        go_roundw
        case rel => exact ⟨k + 1, by omega, by go_num, by rw [HS.out, ← List.append_assoc]; exact HO2.out, (HF.out.alloc _).grown HG.out (Own.bnd HO.out)⟩
        case measure => simp [intOf]; omega
      · obtain rfl : k = q := by omega
        go_wp2
        go_ret
        exact ⟨_, rfl, HO.out, HF.out⟩
end Go.Proofs.YtihljjfnjclefaaDoor
