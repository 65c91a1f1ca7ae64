/- The reference's disk: the walks through New, Read, Fail, Cached, Image. -/
import Derived.Test.YtbedpjpddcjpkaaRfd
set_option linter.unusedVariables false
set_option linter.unusedSimpArgs false
namespace Go.Proofs.Ytbedpjpddcjpkaa
open Go.ChangeShapes Go.WideShapes Go.ChangeAt Go.RowKit Go.MapKept
set_option maxRecDepth 100000

theorem RDsk.new {w w1 : World} {n gb c : Nat} {xs : List Byte} (ho : Own w1 w.heap.size (.slice (some ⟨gb, 0, none⟩) (512 * n) c) xs) (hl : xs.length = 512 * n) (h1 : 1 ≤ n) (h2 : n ≤ 32768) :
    RDsk (w1.alloc (.cells #[.slice (some ⟨gb, 0, none⟩) (512 * n) c, .slice none 0 0, .slice none 0 0, .int .i64 (-1)] 68)) [w1.heap.size, gb] w1.heap.size n ⟨xs, [], none⟩ := by
  have hgb := OwnV.base ho gb rfl
  refine ⟨gb, c, none, 0, none, 0, [], ⟨?_, ?_, ?_, ?_, .nil, ?_, ?_, ?_, ⟨hl, h1, h2, by simp, by simp⟩, by simp⟩⟩
  · exact heap_alloc_new _ _
  · exact (ho.alloc _).lower (Nat.zero_le _)
  · exact OwnV.nil _ _ _
  · exact OwnV.nil _ _ _
  · simp [rctl, optBlk]; omega
  · simp [rctl, optBlk]
  · intro x hx
    simp at hx ⊢
    omega
set_option maxHeartbeats 1000000 in
theorem ref_New_ok (n : Nat) (h1 : 1 ≤ n) (h2 : n ≤ 32768) (w : World) :
    Calls Try.prog 24 #[.int .i64 (n : Int)] w fun e w' => ∃ F g, e = .returned (.tuple #[.pointer (some ⟨g, 0, none⟩), .int .i64 0]) ∧ RDsk w' F g n ⟨List.replicate (512 * n) 0#8, [], none⟩ ∧ FB w w' ∧ (∀ x ∈ F, w.heap.size ≤ x) := by
  obtain ⟨C, hmk, hC⟩ := mk_bytes ((n : Int) * 512) (512 * n) (by omega) (by omega)
  have hw1 : IntKind.i64.wrap ((n : Int) * 512) = (n : Int) * 512 := by rw [IntKind.wrap_i64]; omega
  have hb1 : ¬ (n : Int) < 1 := by omega
  have hb2 : ¬ 32768 < (n : Int) := by omega
  have HO := Lib.hid (show Own (w.alloc (.cells C 5)) w.heap.size (.slice (some ⟨w.heap.size, 0, none⟩) (512 * n) (512 * n)) (List.replicate (512 * n) 0#8) from by
    have := OwnV.lit 5 w (vbs (List.replicate (512 * n) 0#8)) (by rw [vbs_length, List.length_replicate]; simp [maxLen]; omega)
    rw [← hC, vbs_length, List.length_replicate] at this
    exact this)
  have HD := Lib.hid (RDsk.new HO.out (by rw [List.length_replicate]) h1 h2)
  have HF := Lib.hid (((FB.refl w).alloc (.cells C 5)).alloc (.cells #[.slice (some ⟨w.heap.size, 0, none⟩) (512 * n) (512 * n), .slice none 0 0, .slice none 0 0, .int .i64 (-1)] 68))
  have hsz : (w.alloc (.cells C 5)).heap.size = w.heap.size + 1 := by simp
  have HSZ := Lib.hid hsz
  rw [hsz] at HD
  clear hC hsz
  go_enter Try.func24, Try.ntmps24
  go_wp2
  go_ret2
  refine ⟨_, _, ?_, HD.out, HF.out, ?_⟩
  · first | rfl | simp
  · intro x hx
    simp at hx
    omega
set_option maxHeartbeats 1000000 in
theorem ref_New_bad (z : Int) (h : z < 1 ∨ 32768 < z) (w : World) :
    Calls Try.prog 24 #[.int .i64 z] w fun e w' => e = .returned (.tuple #[.pointer none, .int .i64 2]) ∧ w = w' := by
  have hcase : z < 1 ∨ (¬ z < 1 ∧ 32768 < z) := by omega
  clear h
  rcases hcase with h | ⟨h, h'⟩
  all_goals
    go_enter Try.func24, Try.ntmps24
    go_wp2
    go_ret2
    exact ⟨rfl, rfl⟩
section
variable {w : World} {F : List Nat} {g n : Nat} {D : DiskSt}
set_option maxHeartbeats 1000000 in
theorem ref_Fail (h : RDsk w F g n D) (z : Int) (hz : z ≤ 9223372036854775807) : Calls Try.prog 27 #[.pointer (some ⟨g, 0, none⟩), .int .i64 z] w fun e w' => e = .returned (.int .i64 0) ∧ RRes w F g n { D with fuse := if 0 ≤ z then some z else none } w' := by
  obtain ⟨gb, c, NA, nc, CA, cc, V, h⟩ := h
  obtain ⟨q0, q1, q2, q3⟩ := row4 h.row
  have f3 := frozen_row _ h.row 3
  by_cases h0 : 0 ≤ z
  · rw [if_pos h0]
    obtain ⟨h1, h2⟩ := h.refuse (some z) (fun y hy => by cases hy; exact ⟨h0, hz⟩) z rfl
    have H1 := Lib.hid h1
    have H2 := Lib.hid h2
    have hb : (-1 : Int) ≤ z := by omega
    have hb2 : (-1 : Int) < z := by omega
    clear h h1 h2
    go_enter Try.func27, Try.ntmps27
    go_wp2
    go_ret
    exact ⟨rfl, F, fun x hx => .inl hx, ⟨gb, c, NA, nc, CA, cc, V, H1.out⟩, H2.out⟩
  · rw [if_neg h0]
    obtain ⟨h1, h2⟩ := h.refuse none (fun y hy => by cases hy) (-1) rfl
    have H1 := Lib.hid h1
    have H2 := Lib.hid h2
    have hb2 : ¬ (-1 : Int) < z := by omega
    have hb3 : z ≤ (-1 : Int) := by omega
    clear h h1 h2
    go_enter Try.func27, Try.ntmps27
    go_wp2
    go_ret
    exact ⟨rfl, F, fun x hx => .inl hx, ⟨gb, c, NA, nc, CA, cc, V, H1.out⟩, H2.out⟩
set_option maxHeartbeats 1000000 in
theorem ref_Image (h : RDsk w F g n D) : Calls Try.prog 33 #[.pointer (some ⟨g, 0, none⟩)] w fun e w' => ∃ A c, e = .returned (.slice A (512 * n) c) ∧ Rd w' A D.b ∧ FB w w' := by
  obtain ⟨gb, c, NA, nc, CA, cc, V, h⟩ := h
  obtain ⟨q0, q1, q2, q3⟩ := row4 (h.fb ((FB.refl w).alloc (.cells #[] 5))).row
  have HL := Lib.hid h.ok.len
  have HR := Lib.hid (Own.info h.bytes).2.2.1
  have hn2 := h.ok.n2
  rw [← HL.out] at q0
  clear h
  go_enter Try.func33, Try.ntmps33
  go_wp2_with (at_builtin; refine wpList_append_bytes rfl _ _ rfl w.heap.size _ [] (OwnV.lit _ w [] (by simp)) rfl _ c D.b rfl (HR.out.alloc _) (by have := HL.out; simp; omega) (by simp) ?_; intro v' w1 ho hg _; have HO := Lib.hid ho; have HG := Lib.hid hg; clear ho hg)
  go_ret
  have ho := HO.out
  rw [List.nil_append] at ho
  obtain ⟨A', c', e1, _⟩ := ho.form
  rw [e1] at ho
  exact ⟨A', c', by simp [e1, HL.out], (Own.info ho).2.2.1, ((FB.refl w).alloc _).grown HG.out (by simp [Value.ownBlock])⟩
set_option maxHeartbeats 1000000 in
theorem ref_Cached (h : RDsk w F g n D) : Calls Try.prog 31 #[.pointer (some ⟨g, 0, none⟩)] w fun e w' => ∃ A c, e = .returned (.slice A D.M.length c) ∧ RdV w' A ((D.M.map (·.1)).map (.int .i64)) ∧ FB w w' := by
  have HML := Lib.hid (Nat.le_trans h.mlen h.ok.n2)
  obtain ⟨gb, c, NA, nc, CA, cc, V, h⟩ := h
  obtain ⟨q0, q1, q2, q3⟩ := row4 (h.fb ((FB.refl w).alloc (.cells #[] 3))).row
  have HR := Lib.hid (show RdV w NA ((D.M.map (·.1)).map (.int .i64)) from by rw [List.map_map]; exact (OwnV.info h.keys).2.2.1)
  clear h
  go_enter Try.func31, Try.ntmps31
  go_wp2_with (at_builtin; refine wpList_append_any rfl _ _ 46 3 8 (.int .i64 0) Try.underlying46 info_int rfl rfl w.heap.size _ [] (OwnV.lit _ w [] (by simp)) rfl NA D.M.length nc ((D.M.map (·.1)).map (.int .i64)) (by simp) rfl (HR.out.alloc _) (fun u hu => by obtain ⟨b, -, rfl⟩ := List.mem_map.1 hu; rfl) (by have := HML.out; simp [maxLen]; omega) (by have := HML.out; simp; omega) (by simp) ?_; intro v' w1 ho hg _; have HO := Lib.hid ho; have HG := Lib.hid hg; clear ho hg)
  go_ret
  have ho := HO.out
  rw [List.nil_append] at ho
  obtain ⟨A', c', e1, -, -, h3, h4⟩ := OwnV.form ho
  rw [List.length_map, List.length_map] at e1
  exact ⟨A', c', by simp [e1], h3, ((FB.refl w).alloc _).grown HG.out (by simp [Value.ownBlock])⟩
end
end Go.Proofs.Ytbedpjpddcjpkaa
