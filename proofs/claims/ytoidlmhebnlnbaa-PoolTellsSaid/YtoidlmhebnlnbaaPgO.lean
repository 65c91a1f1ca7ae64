/- page over no disk; what Load and Save do where no fault is set. -/
import Derived.Test.YtoidlmhebnlnbaaPgN
import Derived.Test.YtoidlmhebnlnbaaDskR
set_option linter.unusedVariables false
set_option linter.unusedSimpArgs false
namespace Go.Proofs.Ytoidlmhebnlnbaa
open Go.ChangeShapes Go.WideShapes Go.ChangeAt Go.RowKit Go.MapKept

set_option maxRecDepth 100000 in
theorem pn_made (w : World) : Calls Try.prog 36 #[.pointer none] w fun e w' => e = .returned (.bool false) ∧ w = w' := by
  go_enter Try.func36, Try.ntmps36
  go_wp2
  go_ret
  exact ⟨rfl, rfl⟩
set_option maxRecDepth 100000 in
theorem pn_Sectors (w : World) : Calls Try.prog 25 #[.pointer none] w fun e w' => e = .returned (.int .i64 0) ∧ w = w' := by
  go_enter Try.func25, Try.ntmps25
  go_wp2_with fail
  refine (pn_made _).mono ?_
  rintro e w1 ⟨rfl, rfl⟩
  go_wp2
  go_ret
  exact ⟨rfl, rfl⟩
set_option maxRecDepth 100000 in
theorem pn_Pages (w : World) : Calls Try.prog 26 #[.pointer none] w fun e w' => e = .returned (.int .i64 0) ∧ w = w' := by
  go_enter Try.func26, Try.ntmps26
  go_wp2_with fail
  refine (pn_Sectors _).mono ?_
  rintro e w1 ⟨rfl, rfl⟩
  go_wp2
  go_ret
  exact ⟨rfl, rfl⟩
set_option maxRecDepth 100000 in
theorem pn_right (k : Int) (w : World) : Calls Try.prog 42 #[.pointer none, .int .i64 k] w fun e w' => e = .returned (.int .i64 1) ∧ w = w' := by
  go_enter Try.func42, Try.ntmps42
  go_wp2
  go_ret
  exact ⟨rfl, rfl⟩
set_option maxRecDepth 100000 in
theorem pn_Load (k : Int) (w : World) : Calls Try.prog 38 #[.pointer none, .int .i64 k] w fun e w' => e = .returned (.tuple #[.slice none 0 0, .int .i64 1]) ∧ w = w' := by
  go_enter Try.func38, Try.ntmps38
  go_wp2_with fail
  refine (pn_right k _).mono ?_
  rintro e w1 ⟨rfl, rfl⟩
  go_wp2
  go_ret2
  exact ⟨rfl, rfl⟩
set_option maxRecDepth 100000 in
theorem pn_Save (k : Int) (v : Value) (w : World) : Calls Try.prog 39 #[.pointer none, .int .i64 k, v] w fun e w' => e = .returned (.int .i64 1) ∧ FB w w' := by
  go_enter_defers Try.func39, Try.ntmps39
  go_wp2_with fail
  refine (pn_right k _).mono ?_
  rintro e w1 ⟨rfl, rfl⟩
  go_wp2
  refine ⟨.int .i64 1, ?_, rfl, (FB.refl w).alloc _⟩
  simp [results, Try.results39, go_sem]
/-! ### no fault -/
/-- Sector s, as it is read. -/
def secV (D : DiskSt) (s : Nat) : List Byte := (cget D.M (s : Int)).getD (sec D.b s)
def catV (V : Nat → List Byte) : Nat → Nat → List Byte
  | 0, _ => []
  | r + 1, i => V i ++ catV V r (i + 1)
theorem ldF_ok {D : DiskSt} {n k : Nat} (hf : D.fuse = none) : ∀ (r i : Nat) (out : List Byte), k * 8 + i + r ≤ n → ldF n (k : Int) r i out D = (out ++ catV (secV D) r (k * 8 + i), 0, D) := by
  intro r
  induction r with
  | zero => intro i out _; simp [ldF, catV]
  | succ r ih =>
    intro i out h
    have e : (k : Int) * 8 + (i : Int) = ((k * 8 + i : Nat) : Int) := by omega
    rw [ldF, e, sdRead_ok (by omega) (by omega) hf, if_pos rfl]
    show ldF n (k : Int) r (i + 1) _ D = _
    rw [ih (i + 1) _ (by omega), catV, List.append_assoc]
    rfl
theorem sdLoad_ok {D : DiskSt} {n k : Nat} (hf : D.fuse = none) (hk : k < n / 8) : sdLoad D n (k : Int) = (catV (secV D) 8 (k * 8), 0, D) := by
  unfold sdLoad
  rw [if_neg (by unfold pgOut; omega), ldF_ok hf 8 0 [] (by omega)]
  simp
theorem catV_congr {V V' : Nat → List Byte} : ∀ (r i i' : Nat), (∀ j, j < r → V (i + j) = V' (i' + j)) → catV V r i = catV V' r i' := by
  intro r
  induction r with
  | zero => intro i i' _; rfl
  | succ r ih =>
    intro i i' h
    rw [catV, catV, show V i = V' i' from h 0 (by omega), ih (i + 1) (i' + 1) (fun j hj => by have := h (j + 1) (by omega); rw [show i + (j + 1) = i + 1 + j by omega, show i' + (j + 1) = i' + 1 + j by omega] at this; exact this)]
theorem catV_sec (b : List Byte) : ∀ (r i : Nat), catV (sec b) r i = (b.drop (512 * i)).take (512 * r) := by
  intro r
  induction r with
  | zero => intro i; simp [catV]
  | succ r ih =>
    intro i
    rw [catV, ih, sec, show 512 * (i + 1) = 512 * i + 512 by omega, ← List.drop_drop, show 512 * (r + 1) = 512 + 512 * r by omega, List.take_add]
theorem catV_whole {xs : List Byte} (h : xs.length = 4096) : catV (sec xs) 8 0 = xs := by
  rw [catV_sec, Nat.mul_zero, List.drop_zero, List.take_of_length_le (by omega)]
theorem cget_put (M : List (Int × List Byte)) (k k' : Int) (x : List Byte) : cget (cput M k x) k' = if k' = k then some x else cget M k' := by
  induction M with
  | nil =>
    by_cases h : k' = k
    · subst h; simp [cput, cget]
    · rw [if_neg h]; simp [cput, cget]; omega
  | cons p M ih =>
    obtain ⟨a, v⟩ := p
    rw [cput]
    by_cases h : a = k
    · subst h
      rw [if_pos rfl, cget, cget]
      by_cases h2 : k' = a
      · rw [if_pos h2.symm, if_pos h2]
      · rw [if_neg (fun e => h2 e.symm), if_neg h2, if_neg (fun e => h2 e.symm)]
    · rw [if_neg h, cget, cget, ih]
      by_cases h2 : a = k'
      · rw [if_pos h2, if_pos h2, if_neg (by omega)]
      · rw [if_neg h2, if_neg h2]
/-- A page's sectors laid over. -/
def layV (V : Nat → List Byte) (k : Nat) (xs : List Byte) (m : Nat) : Nat → List Byte := fun s => if k * 8 ≤ s ∧ s < k * 8 + m then sec xs (s - k * 8) else V s
theorem svF_ok {n k : Nat} {xs : List Byte} (hl : xs.length = 4096) : ∀ (r i : Nat) (D : DiskSt), D.fuse = none → i + r = 8 → k * 8 + 8 ≤ n → ∃ M, svF n (k : Int) xs r i D = (0, ⟨D.b, M, none⟩) ∧ ∀ s, secV ⟨D.b, M, none⟩ s = if k * 8 + i ≤ s ∧ s < k * 8 + 8 then sec xs (s - k * 8) else secV D s := by
  intro r
  induction r with
  | zero =>
    intro i D hf hi hn
    refine ⟨D.M, ?_, fun s => ?_⟩
    · rw [svF, ← hf]
    · rw [if_neg (by omega)]; rfl
  | succ r ih =>
    intro i D hf hi hn
    have e : (k : Int) * 8 + (i : Int) = ((k * 8 + i : Nat) : Int) := by omega
    have hsl : (sec xs i).length = 512 := sec_len (n := 8) hl (by omega)
    rw [svF, e, sdWrite_ok (by omega) (by omega) hsl hf, if_pos rfl]
    obtain ⟨M, h1, h2⟩ := ih (i + 1) ⟨D.b, cput D.M ((k * 8 + i : Nat) : Int) (sec xs i), none⟩ rfl (by omega) hn
    refine ⟨M, h1, fun s => ?_⟩
    rw [h2 s]
    by_cases hs : k * 8 + (i + 1) ≤ s ∧ s < k * 8 + 8
    · rw [if_pos hs, if_pos (by omega)]
    · rw [if_neg hs]
      unfold secV
      rw [cget_put]
      by_cases hs2 : s = k * 8 + i
      · subst hs2
        rw [if_pos rfl, if_pos (by omega), show k * 8 + i - k * 8 = i by omega]
        rfl
      · rw [if_neg (by omega), if_neg (by omega)]
theorem sdSave_ok {D : DiskSt} {n k : Nat} {xs : List Byte} (hf : D.fuse = none) (hk : k < n / 8) (hl : xs.length = 4096) :
    ∃ M, sdSave D n (k : Int) xs = (0, ⟨D.b, M, none⟩) ∧ ∀ s, secV ⟨D.b, M, none⟩ s = layV (secV D) k xs 8 s := by
  unfold sdSave
  rw [if_neg (by unfold pgOut; rw [hl]; omega)]
  exact svF_ok hl 8 0 D hf rfl (by omega)
theorem sdSave_bad {D : DiskSt} {n : Nat} {k : Int} {xs : List Byte} (hl : xs.length ≠ 4096) : sdSave D n k xs = (2, D) := by
  unfold sdSave; rw [if_pos (.inr hl)]
theorem layV_same (V : Nat → List Byte) {k : Nat} {xs : List Byte} (h : xs.length = 4096) : catV (layV V k xs 8) 8 (k * 8) = xs :=
  (catV_congr (V' := sec xs) 8 (k * 8) 0 (fun j hj => by unfold layV; rw [if_pos (by omega), show k * 8 + j - k * 8 = 0 + j by omega])).trans (catV_whole h)
theorem layV_other (V : Nat → List Byte) {k k' : Nat} (xs : List Byte) (h : k' ≠ k) : catV (layV V k xs 8) 8 (k' * 8) = catV V 8 (k' * 8) :=
  catV_congr 8 _ _ (fun j hj => by unfold layV; rw [if_neg (by omega)])
theorem sdFlush_ok {D : DiskSt} (hf : D.fuse = none) : sdFlush D = (0, ⟨flushB D.M D.b, [], none⟩) := by
  unfold sdFlush; rw [hf]; rfl
theorem secV_clean (b : List Byte) (f : Option Int) (s : Nat) : secV ⟨b, [], f⟩ s = sec b s := rfl
theorem secV_flush {D : DiskSt} {n : Nat} (h : D.ok n) (hn : (D.M.map (·.1)).Nodup) (f : Option Int) {s : Nat} (hs : s < n) : secV ⟨flushB D.M D.b, [], f⟩ s = secV D s := by
  rw [secV_clean, sec_flushB h.len hs h.M hn]; rfl
/-- A page's bytes in the image. -/
theorem catV_image (b : List Byte) (f : Option Int) (k : Nat) : catV (secV ⟨b, [], f⟩) 8 (k * 8) = (b.drop (4096 * k)).take 4096 := by
  refine (catV_congr (V' := sec b) 8 (k * 8) (k * 8) (fun j _ => rfl)).trans ?_
  rw [catV_sec, show 512 * (k * 8) = 4096 * k by omega]
end Go.Proofs.Ytoidlmhebnlnbaa
