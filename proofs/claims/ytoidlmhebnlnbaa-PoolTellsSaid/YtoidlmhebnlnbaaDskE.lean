/- A disk: the walks through Of, New, Image, Cached. -/
import Derived.Test.YtoidlmhebnlnbaaDskD
import Derived.Test.YtoidlmhebnlnbaaMk
set_option linter.unusedVariables false
set_option linter.unusedSimpArgs false
namespace Go.Proofs.Ytoidlmhebnlnbaa
open Go.ChangeShapes Go.WideShapes Go.ChangeAt Go.RowKit Go.MapKept

theorem Own.head0 {w : World} {base n : Nat} {A : Option Addr} {c : Nat} {xs : List Byte} (h : Own w base (.slice A n c) xs) (hn : 0 < n) : ∃ g, A = some ⟨g, 0, none⟩ ∧ base ≤ g ∧ g < w.heap.size := by
  rcases h.2 with ⟨h', h0⟩ | ⟨g, cap, cur, h', hb, hg, _⟩
  · simp at h'; omega
  · simp only [Value.slice.injEq] at h'
    exact ⟨g, h'.1, hb, (Array.getElem?_eq_some_iff.1 hg).1⟩
/-- A new disk. -/
theorem Dsk.new {w w1 : World} {n gb c : Nat} {xs : List Byte} (hF : FB w w1) (ho : Own w1 w.heap.size (.slice (some ⟨gb, 0, none⟩) (512 * n) c) xs) (hl : xs.length = 512 * n) (h1 : 1 ≤ n) (h2 : n ≤ 32768) :
    Dsk ((w1.alloc (.map #[] 0)).alloc (.cells #[.slice (some ⟨gb, 0, none⟩) (512 * n) c, .map (some w1.heap.size), .slice none 0 0, .pointer none] 71)) [w1.heap.size + 1, gb, w1.heap.size] (w1.heap.size + 1) n ⟨xs, [], none⟩ := by
  have hgb := OwnV.base ho gb rfl
  have hle := hF.le
  have hsz : (w1.alloc (.map #[] 0)).heap.size = w1.heap.size + 1 := by simp
  refine ⟨gb, c, w1.heap.size, none, 0, none, [], ?_, ?_, ?_, .nil, OwnV.nil _ _ _, trivial, ?_, ?_, ⟨hl, h1, h2, by simp, by simp⟩, ?_⟩
  · rw [← hsz]; exact heap_alloc_new _ _
  · exact (((ho.alloc _).alloc _).lower (Nat.zero_le _))
  · exact (MapAt.new w1).ts (TS.of (F := []) ((FB.refl _).alloc _)) (by simp)
  · simp [optBlk]; omega
  · simp [optBlk]
  · intro x hx
    simp at hx ⊢
    omega
set_option maxRecDepth 100000 in
set_option maxHeartbeats 1000000 in
theorem dsk_Of_ok (n : Nat) (h1 : 1 ≤ n) (h2 : n ≤ 32768) (A : Option Addr) (m ca : Nat) (xs : List Byte) (w : World) (hm : m = 512 * n) (hl : xs.length = 512 * n) (hr : Rd w A xs) :
    Calls Try.prog 27 #[.slice A m ca] w fun e w' => ∃ F g, e = .returned (.tuple #[.pointer (some ⟨g, 0, none⟩), .int .i64 0]) ∧ Dsk w' F g n ⟨xs, [], none⟩ ∧ FB w w' ∧ (∀ x ∈ F, w.heap.size ≤ x) := by
  subst hm
  have HR := Lib.hid hr
  have HL := Lib.hid hl
  have hmk := @run_makeMap Try.prog
  have hq2 : (512 * (n : Int)).tdiv 512 = (n : Int) := by rw [Int.tdiv_eq_ediv_of_nonneg (by omega)]; omega
  have hq3 : (512 * (n : Int)).tmod 512 = 0 := by rw [Int.tmod_eq_emod_of_nonneg (by omega)]; omega
  have hn1 : (n : Int) ≤ 32768 := by omega
  have hn2 : (1 : Int) ≤ (n : Int) := by omega
  clear hr hl
  go_enter Try.func27, Try.ntmps27
  go_wp2_with fail
  refine (sl_Clone xs A (512 * n) ca _ HL.out.symm (by rw [HL.out]; omega) HR.out).mono ?_
  rintro e w1 ⟨A1, c1, rfl, ho, hb⟩
  obtain ⟨gb, rfl, -, -⟩ := Own.head0 ho (by omega)
  have HF := Lib.hid (show FB w w1 from hb)
  have HD := Lib.hid (Dsk.new hb ho HL.out h1 h2)
  have HG := Lib.hid (show w.heap.size ≤ gb from (OwnV.base ho gb rfl).1)
  clear ho hb
  go_wp2
  go_ret2
  refine ⟨_, _, ?_, HD.out, (HF.out.alloc _).alloc _, ?_⟩
  · first | rfl | simp
  · intro x hx
    have := HF.out.le
    have := HG.out
    simp at hx
    omega
set_option maxRecDepth 100000 in
set_option maxHeartbeats 1000000 in
theorem dsk_Of_bad (A : Option Addr) (m ca : Nat) (w : World) (hmm : m ≤ 9223372036854775807) (hm : m / 512 < 1 ∨ 32768 < m / 512 ∨ m % 512 ≠ 0) :
    Calls Try.prog 27 #[.slice A m ca] w fun e w' => e = .returned (.tuple #[.pointer none, .int .i64 2]) ∧ w = w' := by
  have hq2 : (m : Int).tdiv 512 = ((m / 512 : Nat) : Int) := by rw [Int.tdiv_eq_ediv_of_nonneg (by omega)]; omega
  have hq3 : (m : Int).tmod 512 = ((m % 512 : Nat) : Int) := by rw [Int.tmod_eq_emod_of_nonneg (by omega)]; omega
  have hcase : ((m / 512 : Nat) : Int) < 1 ∨ (¬ ((m / 512 : Nat) : Int) < 1 ∧ 32768 < ((m / 512 : Nat) : Int)) ∨ (¬ ((m / 512 : Nat) : Int) < 1 ∧ ¬ 32768 < ((m / 512 : Nat) : Int) ∧ (((m % 512 : Nat) : Int) != 0) = true) := by
    rcases Nat.lt_or_ge (m / 512) 1 with h | h
    · exact .inl (by omega)
    · rcases Nat.lt_or_ge 32768 (m / 512) with h' | h'
      · exact .inr (.inl ⟨by omega, by omega⟩)
      · exact .inr (.inr ⟨by omega, by omega, by simp; omega⟩)
  have hdq : 0 ≤ ((m / 512 : Nat) : Int) := by omega
  have hdq1 : ((m / 512 : Nat) : Int) ≤ 9223372036854775807 := by omega
  have hwq : wrap64 ((m / 512 : Nat) : Int) = ((m / 512 : Nat) : Int) := by have := IntKind.wrap_i64 ((m / 512 : Nat) : Int); unfold wrap64; omega
  clear hm hmm
  generalize ((m / 512 : Nat) : Int) = dq at *
  generalize ((m % 512 : Nat) : Int) = dm at *
  rcases hcase with h | ⟨h, h'⟩ | ⟨h, h', h''⟩
  all_goals
    go_enter Try.func27, Try.ntmps27
    go_wp2
    go_ret2
    exact ⟨rfl, rfl⟩
set_option maxRecDepth 100000 in
set_option maxHeartbeats 1000000 in
theorem dsk_New_ok (n : Nat) (h1 : 1 ≤ n) (h2 : n ≤ 32768) (w : World) :
    Calls Try.prog 8 #[.int .i64 (n : Int)] w fun e w' => ∃ F g, e = .returned (.tuple #[.pointer (some ⟨g, 0, none⟩), .int .i64 0]) ∧ Dsk w' F g n ⟨List.replicate (512 * n) 0#8, [], none⟩ ∧ FB w w' ∧ (∀ x ∈ F, w.heap.size ≤ x) := by
  obtain ⟨C, hmk, hC⟩ := mk_bytes ((n : Int) * 512) (512 * n) (by omega) (by omega)
  have HC := Lib.hid hC
  have hw1 : IntKind.i64.wrap ((n : Int) * 512) = (n : Int) * 512 := by rw [IntKind.wrap_i64]; omega
  clear hC
  go_enter Try.func8, Try.ntmps8
  go_wp2_with fail
  refine (dsk_Of_ok n h1 h2 _ (512 * n) _ (List.replicate (512 * n) 0#8) _ rfl (by simp) (rd_mk HC.out _ _ rfl)).mono ?_
  rintro e w1 ⟨F, g, rfl, hd, hf, hg⟩
  have HD := Lib.hid hd
  have HF := Lib.hid (((FB.refl w).alloc _).trans hf)
  have HG := Lib.hid (show ∀ x ∈ F, w.heap.size ≤ x from fun x hx => by have := hg x hx; simp at this; omega)
  clear hd hf hg
  go_wp2
  go_ret2
  exact ⟨F, g, rfl, HD.out, HF.out, HG.out⟩
set_option maxRecDepth 100000 in
set_option maxHeartbeats 1000000 in
theorem dsk_New_bad (z : Int) (h : z < 1 ∨ 32768 < z) (w : World) :
    Calls Try.prog 8 #[.int .i64 z] w fun e w' => e = .returned (.tuple #[.pointer none, .int .i64 2]) ∧ w = w' := by
  have hcase : z < 1 ∨ (¬ z < 1 ∧ 32768 < z) := by omega
  clear h
  rcases hcase with h | ⟨h, h'⟩
  all_goals
    go_enter Try.func8, Try.ntmps8
    go_wp2
    go_ret2
    exact ⟨rfl, rfl⟩
set_option maxRecDepth 100000 in
set_option maxHeartbeats 1000000 in
theorem dsk_Image {w : World} {F : List Nat} {g n : Nat} {D : DiskSt} (h : Dsk w F g n D) :
    Calls Try.prog 22 #[.pointer (some ⟨g, 0, none⟩)] w fun e w' => ∃ A c, e = .returned (.slice A (512 * n) c) ∧ Rd w' A D.b ∧ 512 * n ≤ c ∧ c ≤ maxLen ∧ (∀ ad, A = some ad → w.heap.size ≤ ad.block) ∧ FB w w' := by
  have H := Lib.hid h
  have hok := h.ok
  have hn2 := hok.n2
  have HL := Lib.hid hok.len
  obtain ⟨gb, c, q0, ho, -⟩ := h.bytes
  have HR := Lib.hid (Own.info ho).2.2.1
  clear h ho hok
  go_enter Try.func22, Try.ntmps22
  go_wp2_with fail
  refine (dsk_made H.out).mono ?_
  rintro e w1 ⟨rfl, rfl⟩
  go_wp2_with fail
  refine (sl_Clone D.b _ (512 * n) c _ HL.out.symm (by rw [HL.out]; omega) HR.out).mono ?_
  rintro e w1 ⟨A1, c1, rfl, ho, hb⟩
  have HO := Lib.hid (Own.info ho)
  have HF := Lib.hid (show FB w w1 from hb)
  clear ho hb
  go_wp2
  go_ret
  exact ⟨A1, c1, rfl, HO.out.2.2.1, by rw [← HL.out]; exact HO.out.1, HO.out.2.1, fun ad ha => (HO.out.2.2.2.2 ad ha).1, HF.out⟩
end Go.Proofs.Ytoidlmhebnlnbaa
