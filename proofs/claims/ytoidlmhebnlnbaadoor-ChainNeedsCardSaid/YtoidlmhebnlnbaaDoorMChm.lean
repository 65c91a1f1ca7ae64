/- Walks and laws that the claim's last text stands on, several texts in one file: RfT, Trm. Under the hypotheses that each theorem states. -/
import Derived.RangeFuncNested
import Derived.RangeFuncCalls
import Derived.RangeFuncLeaves
import Derived.RangeFuncBox
import Derived.TacticsInMore
import Derived.Test.YtoidlmhebnlnbaaDoorMCha
import Derived.Test.YtoidlmhebnlnbaaDoorMChb
import Derived.Test.YtoidlmhebnlnbaaDoorMChc
import Derived.Test.YtoidlmhebnlnbaaDoorMChd
import Derived.Test.YtoidlmhebnlnbaaDoorMChe
import Derived.Test.YtoidlmhebnlnbaaDoorMChf
import Derived.Test.YtoidlmhebnlnbaaDoorMChg
import Derived.Test.YtoidlmhebnlnbaaDoorMChh
import Derived.Test.YtoidlmhebnlnbaaDoorMChi
import Derived.Test.YtoidlmhebnlnbaaDoorMChj
import Derived.Test.YtoidlmhebnlnbaaDoorMChk
import Derived.Test.YtoidlmhebnlnbaaDoorMChl
/- A range over a function whose iterator and whose body share the memory by blocks: the body's are K, and what it makes comes into K; the iterator leaves K alone. No program in sight. -/
set_option linter.unusedVariables false
set_option linter.unusedSimpArgs false
namespace Go.Proofs.YtoidlmhebnlnbaaDoor
open Go.RowKit

/-- What a body may do that owns the blocks K: it turns these alone; then it owns K', these and what it has made. -/
structure Turns (K K' : List Nat) (W W' : World) : Prop where
  ts : TS K W W'
  sub : ∀ k ∈ K, k ∈ K'
  new : ∀ k ∈ K', k ∈ K ∨ W.heap.size ≤ k
  lt : ∀ k ∈ K', k < W'.heap.size
theorem Turns.refl {K : List Nat} {W : World} (h : ∀ k ∈ K, k < W.heap.size) : Turns K K W W := ⟨TS.refl _ _, fun _ h => h, fun _ h => .inl h, h⟩
theorem Turns.trans {K K' K'' : List Nat} {a b c : World} (h : Turns K K' a b) (k : Turns K' K'' b c) : Turns K K'' a c :=
  ⟨h.ts.trans k.ts (fun x hx => h.new x hx), fun x hx => k.sub x (h.sub x hx), fun x hx => by
    rcases k.new x hx with h1 | h1
    · exact h.new x h1
    · exact .inr (Nat.le_trans h.ts.size h1), k.lt⟩
/-- Whatever comes of what it owns. -/
theorem Turns.of {K : List Nat} {W W' : World} (t : TS K W W') (h : ∀ k ∈ K, k < W.heap.size) : Turns K (List.range' W.heap.size (W'.heap.size - W.heap.size) ++ K) W W' := by
  refine ⟨t, fun x hx => List.mem_append_right _ hx, fun x hx => ?_, fun x hx => ?_⟩
  · rcases List.mem_append.1 hx with h1 | h1
    · exact .inr (List.mem_range'_1.1 h1).1
    · exact .inl h1
  · rcases List.mem_append.1 hx with h1 | h1
    · have := List.mem_range'_1.1 h1; omega
    · exact Nat.lt_of_lt_of_le (h x h1) t.size
theorem Turns.put {K : List Nat} {W : World} (h : ∀ k ∈ K, k < W.heap.size) {l : Nat} (hl : l ∈ K) (o : Obj) : Turns K K W (W.putObj l o) :=
  ⟨⟨rfl, rfl, rfl, by simp, fun k _ hn => World.putObj_heap_other (fun e => hn (e ▸ hl))⟩, fun _ h => h, fun _ h => .inl h, fun k hk => by simpa using h k hk⟩
theorem KP.put {K : List Nat} {W : World} {l : Nat} (hl : l ∉ K) (o : Obj) : KP K W (W.putObj l o) := ⟨by simp, fun b hb => World.putObj_heap_other (fun e => hl (e ▸ hb))⟩

variable {F : Fence} {n : Nat} {P : Program}

/-- How the body of a round may be left. -/
def twoPost {α : Type} (B : Nat) (C : List α → List Nat → World → Prop) (Cx : Code → List α → List Nat → World → Prop) (xs : List α) (K : List Nat) (W : World) : Exit → Act → World → Prop
  | .normal, _, W' => KeepsFrom B W W' ∧ ∃ K', Turns K K' W W' ∧ C xs K' W'
  | .ret, _, W' => KeepsFrom B W W' ∧ ∃ K', Turns K K' W W' ∧ Cx .ret xs K' W'
  | .exit id, _, W' => KeepsFrom B W W' ∧ ∃ K', Turns K K' W W' ∧ Cx (.exit id) xs K' W'
  | .goto t, _, W' => KeepsFrom B W W' ∧ ∃ K', Turns K K' W W' ∧ Cx (.goto t) xs K' W'
  | .panic _, _, _ => False
  | .outgrown, _, _ => False

/-- The iterator's word. X: what it says of an item as it hands it over. -/
def SeqTwo {α : Type} (F : Fence) (n : Nat) (P : Program) (g : Nat) (lb : Array Value) (encs : α → Array Value) (Start : List Nat → World → Prop) (X : List α → α → List Nat → World → Prop) (Done Stop : List α → List Nat → World → Prop) : Prop :=
  ∀ (l : Nat) (J Jx : List α → List Nat → World → Prop) (K : List Nat) (W : World),
    (∀ xs K W W', J xs K W → KP K W W' → J xs K W') → (∀ xs K W W', Jx xs K W → KP K W W' → Jx xs K W') →
    (∀ pre x K W, X pre x K W → J pre K W → YieldAt F (n - 1) P l (encs x) W fun e W' =>
      (e = .returned (.bool true) ∧ ∃ K', Turns K K' W W' ∧ J (pre ++ [x]) K' W') ∨ (e = .returned (.bool false) ∧ ∃ K', Turns K K' W W' ∧ Jx (pre ++ [x]) K' W')) →
    Start K W → J [] K W →
    CallsIn F n P g (#[.func (.yield l) #[] #[]] ++ lb) W fun e W' => (∃ v, e = .returned v) ∧ ((∃ xs K', Done xs K' W' ∧ J xs K' W') ∨ (∃ xs K', Stop xs K' W' ∧ Jx xs K' W'))

/-- THE STATEMENT. -/
theorem wpIn_rangeFunc_two {α : Type} {g : Operand} {ps : Array Tmp} {assign body : Code} {Q : Exit → Act → World → Prop} {a : Act} {w : World}
    (hro : F.round = none) (h1 : 1 ≤ n) {gf : Nat} {lb : Array Value} (hg : a.eval g = .func (.func gf) #[] lb) (hFg : F.fn gf) (eg : ∀ args w, (callFunc gf args).run P w = .ok (.enter gf args) w)
    {encs : α → Array Value} {Start : List Nat → World → Prop} {X : List α → α → List Nat → World → Prop} {Done Stop : List α → List Nat → World → Prop} (hseq : SeqTwo F (n - 1) P gf lb encs Start X Done Stop) (hps : ∀ x, (encs x).size = ps.size)
    (C : List α → List Nat → World → Prop) (Cx : Code → List α → List Nat → World → Prop) (hC : ∀ xs K W W', C xs K W → KP K W W' → C xs K W') (hCx : ∀ c xs K W W', Cx c xs K W → KP K W W' → Cx c xs K W')
    (hCp : ∀ xs K W l o o', C xs K W → w.heap.size ≤ l → W.heap[l]? = some o → o.isCells = false → C xs K (W.putObj l o')) (hCxp : ∀ c xs K W l o o', Cx c xs K W → w.heap.size ≤ l → W.heap[l]? = some o → o.isCells = false → Cx c xs K (W.putObj l o'))
    (hCl : ∀ xs K W, C xs K W → ∀ k ∈ K, k < W.heap.size) (hCxl : ∀ c xs K W, Cx c xs K W → ∀ k ∈ K, k < W.heap.size)
    (K0 : List Nat) (h0 : ∀ o1 o2 : Obj, C [] ((w.heap.size + 1) :: w.heap.size :: K0) ((w.alloc o1).alloc o2)) (hst : ∀ o1 o2 : Obj, Start ((w.heap.size + 1) :: w.heap.size :: K0) ((w.alloc o1).alloc o2)) (B : List α → α → List Nat → Act → World → Prop)
    (hBp : ∀ pre x K a' W l o o', B pre x K a' W → w.heap.size ≤ l → l ∈ K → W.heap[l]? = some o → o.isCells = false → B pre x K a' (W.putObj l o')) (hBl : ∀ pre x K a' W, B pre x K a' W → ∀ k ∈ K, k < W.heap.size)
    (hassign : ∀ (l : Nat) (pre : List α) (x : α) (K : List Nat) (W : World) (N : Act → World → Prop), C pre K W → X pre x K W → (∀ a' W' K', KeepsFrom w.heap.size W W' → Turns K K' W W' → B pre x K' a' W' → N a' W') →
      assign.wpIn (F.inRound l) (n - 1 - 1) P (Exit.then N (fun _ _ _ => False)) { tmps := (ps.zip (encs x)).foldl (fun t (p, v) => t.setIfInBounds p v) a.tmps, defers := [] } W)
    (hbody : ∀ (l : Nat) (pre : List α) (x : α) (K : List Nat) (a' : Act) (W : World), B pre x K a' W → body.wpIn (F.inRound l) (n - 1 - 1) P (twoPost w.heap.size C Cx (pre ++ [x]) K W) a' W)
    (hdone : ∀ (D : Nat) (xs : List α) (K : List Nat) (W2 W : World), w.heap.size ≤ D → Done xs K W2 → Turns K K W2 W → C xs K W → W.heap[D]? = some (.deferred (some [])) → D ∈ K → Q .normal { a with defers := { target := .collected D, args := #[] } :: a.defers } W)
    (hstop : ∀ (D : Nat) (c : Code) (xs : List α) (K : List Nat) (W2 W : World), w.heap.size ≤ D → Stop xs K W2 → Turns K K W2 W → Cx c xs K W → W.heap[D]? = some (.deferred (some [])) → D ∈ K → c.wpIn F n P Q { a with defers := { target := .collected D, args := #[] } :: a.defers } W) :
    (Code.rangeFunc g ps assign body).wpIn F n P Q a w := by
  refine wpIn_rangeFunc ?_
  intro fn hfn
  rw [hro]
  obtain ⟨rec, hrec⟩ : ∃ rec : LoopState → Option Code → Loop, rec = fun st pe => { state := st, pending := pe, fn, tmps := a.tmps, params := ps, assign, body, defers := w.heap.size } := ⟨_, rfl⟩
  obtain ⟨W1, hW1⟩ : ∃ W1, (w.alloc (.deferred (some []))).alloc (.loop (rec .ready none)) = W1 := ⟨_, rfl⟩
  have hL1 : W1.heap[w.heap.size + 1]? = some (.loop (rec .ready none)) := by
    rw [← hW1]; have := World.alloc_heap_new (w.alloc (.deferred (some []))) (.loop (rec .ready none)); rwa [World.size_alloc] at this
  have hK1 : W1.heap[w.heap.size]? = some (.deferred (some [])) := by
    rw [← hW1]; exact (Below.heap_alloc _ _ _ (by simp)).trans (World.alloc_heap_new w _)
  have hI1 : C [] ((w.heap.size + 1) :: w.heap.size :: K0) W1 := by rw [← hW1]; exact h0 _ _
  have hS1 : Start ((w.heap.size + 1) :: w.heap.size :: K0) W1 := by rw [← hW1]; exact hst _ _
  refine ⟨w.heap.size + 1, [{ target := .collected w.heap.size, args := #[] }], W1, { target := .fn (.func gf) lb, args := #[.func (.yield (w.heap.size + 1)) #[] #[]] }, W1, gf,
    #[.func (.yield (w.heap.size + 1)) #[] #[]] ++ lb, W1, ?_, ?_, ?_, ?_, fun _ => h1, ?_⟩
  · rw [← hW1, hrec]; exact run_enterLoop_outer _ _ _ _ _
  · simp only [resolve, hg]
    simp [go_sem]
  · intro f' hf'; simp [Target.leads] at hf'; subst hf'; exact hFg
  · simp [invoke, go_sem, eg]
  · refine (hseq (w.heap.size + 1)
      (fun pre K W => C pre K W ∧ W.heap[w.heap.size + 1]? = some (.loop (rec .ready none)) ∧ W.heap[w.heap.size]? = some (.deferred (some [])) ∧ w.heap.size + 1 ∈ K ∧ w.heap.size ∈ K)
      (fun pre K W => ∃ c, Cx c pre K W ∧ W.heap[w.heap.size + 1]? = some (.loop (rec .done (some c))) ∧ W.heap[w.heap.size]? = some (.deferred (some [])) ∧ w.heap.size + 1 ∈ K ∧ w.heap.size ∈ K)
      _ W1
      (fun xs K W W' hs hk => ⟨hC _ _ _ _ hs.1 hk, (hk.2 _ hs.2.2.2.1).trans hs.2.1, (hk.2 _ hs.2.2.2.2).trans hs.2.2.1, hs.2.2.2⟩)
      (fun xs K W W' hs hk => by
        obtain ⟨c, hc, hl, hd, hm⟩ := hs
        exact ⟨c, hCx _ _ _ _ _ hc hk, (hk.2 _ hm.1).trans hl, (hk.2 _ hm.2).trans hd, hm⟩)
      ?_ hS1 ⟨hI1, hL1, hK1, by simp, by simp⟩).mono ?_
    · -- one round
      rintro pre x K W hx ⟨hi, hl, hk, hm⟩
      have hy := run_yield (P := P) (args := encs x) hl (by rw [hrec]; exact hps x)
      rw [hrec] at hy
      refine ⟨fn, _, assign, body, hy, roundIn_of_wpIn hfn (hassign _ pre x K W _ hi hx ?_)⟩
      clear hy
      intro a' Wa Ka hkfa htra hba
      replace hl := hkfa.same _ _ (by omega) hl rfl
      replace hk := hkfa.same _ _ (Nat.le_refl _) hk rfl
      have hlt : w.heap.size + 1 < Wa.heap.size := (Array.getElem?_eq_some_iff.1 hl).1
      replace hm := And.intro (htra.sub _ hm.1) (htra.sub _ hm.2)
      clear hx hi
      revert htra hkfa
      generalize K = Kb
      generalize W = Wb
      intro hkfa htra
      obtain ⟨W, rfl⟩ : ∃ W, W = Wa := ⟨_, rfl⟩
      obtain ⟨K, rfl⟩ : ∃ K, K = Ka := ⟨_, rfl⟩
      refine ⟨_, run_beginRound hl (by rw [hrec]), ?_⟩
      have hl2 : (W.putObj (w.heap.size + 1) (.loop { rec .ready none with state := .busy })).heap[w.heap.size + 1]? = some (.loop { rec .ready none with state := .busy }) := World.putObj_heap_same hlt
      have hk2 : (W.putObj (w.heap.size + 1) (.loop { rec .ready none with state := .busy })).heap[w.heap.size]? = some (.deferred (some [])) := (World.putObj_heap_other (by omega)).trans hk
      have hw2 : Turns K K W (W.putObj (w.heap.size + 1) (.loop { rec .ready none with state := .busy })) := Turns.put (hBl _ _ _ _ _ hba) hm.1 _
      refine wpIn_mono (hbody _ pre x K a' _ (hBp _ _ _ _ _ _ _ _ hba (by omega) hm.1 hl rfl)) ?_
      have fin : ∀ (jump : Option Code) (W3 : World), KeepsFrom w.heap.size (W.putObj (w.heap.size + 1) (.loop { rec .ready none with state := .busy })) W3 →
          (Instr.endRound (w.heap.size + 1) jump).run P W3 = .ok (.bool jump.isNone) (W3.putObj (w.heap.size + 1) (.loop (rec (if jump.isNone then .ready else .done) jump))) ∧
          W3.heap[w.heap.size + 1]? = some (.loop { rec .ready none with state := .busy }) ∧
          (W3.putObj (w.heap.size + 1) (.loop (rec (if jump.isNone then .ready else .done) jump))).heap[w.heap.size + 1]? = some (.loop (rec (if jump.isNone then .ready else .done) jump)) ∧
          (W3.putObj (w.heap.size + 1) (.loop (rec (if jump.isNone then .ready else .done) jump))).heap[w.heap.size]? = some (.deferred (some [])) := fun jump W3 hk3 => by
        have hl3 := hk3.same _ _ (by omega) hl2 rfl
        have := run_endRound (P := P) jump hl3
        rw [hrec] at this ⊢
        exact ⟨this, by rw [hrec] at hl3; exact hl3, World.putObj_heap_same (Array.getElem?_eq_some_iff.1 hl3).1, (World.putObj_heap_other (by omega)).trans (hk3.same _ _ (Nat.le_refl _) hk2 rfl)⟩
      rintro e a3 W3 hp
      cases e with
      | normal =>
        obtain ⟨hk3, K', hkp3, hi3⟩ := hp
        obtain ⟨hr, hl3, hl4, hk4⟩ := fin none W3 hk3
        exact ⟨_, _, hr, .inl ⟨rfl, K', ((htra.trans hw2).trans hkp3).trans (Turns.put (hCl _ _ _ hi3) (hkp3.sub _ hm.1) _), hCp _ _ _ _ _ _ hi3 (by omega) hl3 rfl, hl4, hk4, hkp3.sub _ hm.1, hkp3.sub _ hm.2⟩⟩
      | ret =>
        obtain ⟨hk3, K', hkp3, hi3⟩ := hp
        obtain ⟨hr, hl3, hl4, hk4⟩ := fin (some .ret) W3 hk3
        exact ⟨_, _, hr, .inr ⟨rfl, K', ((htra.trans hw2).trans hkp3).trans (Turns.put (hCxl _ _ _ _ hi3) (hkp3.sub _ hm.1) _), .ret, hCxp _ _ _ _ _ _ _ hi3 (by omega) hl3 rfl, hl4, hk4, hkp3.sub _ hm.1, hkp3.sub _ hm.2⟩⟩
      | exit id =>
        obtain ⟨hk3, K', hkp3, hi3⟩ := hp
        obtain ⟨hr, hl3, hl4, hk4⟩ := fin (some (.exit id)) W3 hk3
        exact ⟨_, _, hr, .inr ⟨rfl, K', ((htra.trans hw2).trans hkp3).trans (Turns.put (hCxl _ _ _ _ hi3) (hkp3.sub _ hm.1) _), .exit id, hCxp _ _ _ _ _ _ _ hi3 (by omega) hl3 rfl, hl4, hk4, hkp3.sub _ hm.1, hkp3.sub _ hm.2⟩⟩
      | goto t =>
        obtain ⟨hk3, K', hkp3, hi3⟩ := hp
        obtain ⟨hr, hl3, hl4, hk4⟩ := fin (some (.goto t)) W3 hk3
        exact ⟨_, _, hr, .inr ⟨rfl, K', ((htra.trans hw2).trans hkp3).trans (Turns.put (hCxl _ _ _ _ hi3) (hkp3.sub _ hm.1) _), .goto t, hCxp _ _ _ _ _ _ _ hi3 (by omega) hl3 rfl, hl4, hk4, hkp3.sub _ hm.1, hkp3.sub _ hm.2⟩⟩
      | panic ch => exact hp.elim
      | outgrown => exact hp.elim
    · -- behind the iterator
      rintro e W2 ⟨⟨v, rfl⟩, (⟨xs, K', hS, hi, hl, hk, hm⟩ | ⟨xs, K', hSp, c, hi, hl, hk, hm⟩)⟩
      · exact ⟨none, _, by have := run_endLoop (P := P) hl (by rw [hrec]; simp); rw [hrec] at this; exact this, hdone _ xs K' W2 _ (Nat.le_refl _) hS (Turns.put (hCl _ _ _ hi) hm.1 _) (hCp _ _ _ _ _ _ hi (by omega) hl rfl) ((World.putObj_heap_other (by omega)).trans hk) hm.2⟩
      · exact ⟨some c, _, by have := run_endLoop (P := P) hl (by rw [hrec]; simp); rw [hrec] at this; exact this, hstop _ c xs K' W2 _ (Nat.le_refl _) hSp (Turns.put (hCxl _ _ _ _ hi) hm.1 _) (hCxp _ _ _ _ _ _ _ hi (by omega) hl rfl) ((World.putObj_heap_other (by omega)).trans hk) hm.2⟩

section
variable {w0 w w' : World} {I K K' : List Nat} {g n gp gf : Nat} {st : PlSt}
/-- A pool beside a body: what the body does leaves it as it was. -/
theorem PoA.turns (h : PoA w0 (I ++ K) g n gp gf st w) (t : Turns K K' w w') (h0 : ∀ k ∈ K, w0.heap.size ≤ k) : PoA w0 (I ++ K') g n gp gf st w' := by
  obtain ⟨⟨F, xs, h1, h2, h3, h4⟩, h5⟩ := h
  have nk : ∀ b ∈ K, b ∉ gp :: gf :: F := fun b hb => (h4 b (List.mem_append_right _ hb)).2
  have hnF : ∀ y ∈ F, y ∉ K := fun y hy hm => nk y hm (List.mem_cons_of_mem _ (List.mem_cons_of_mem _ hy))
  have hlt := h1.lt
  have new : ∀ b, w.heap.size ≤ b → b ∉ gp :: gf :: F := fun b hb hm => by
    rcases List.mem_cons.1 hm with e | hm
    · omega
    · rcases List.mem_cons.1 hm with e | hm
      · omega
      · have := h1.dsk.lt _ hm; omega
  have hI : ∀ b ∈ I ++ K', b ∈ I ++ K ∨ w.heap.size ≤ b := fun b hb => by
    rcases List.mem_append.1 hb with h | h
    · exact .inl (List.mem_append_left _ h)
    · exact (t.new b h).imp (fun h => List.mem_append_right _ h) id
  have hlt' : ∀ b ∈ I ++ K', b < w'.heap.size := fun b hb => by
    rcases List.mem_append.1 hb with h | h
    · exact Nat.lt_of_lt_of_le (h4 b (List.mem_append_left _ h)).1 t.ts.size
    · exact t.lt b h
  refine ⟨⟨F, xs, ⟨h1.dsk.ts t.ts (fun y hy hm => hnF y hm hy), (t.ts.block _ hlt.1 (fun hm => nk _ hm (by simp))).trans h1.prow, (t.ts.block _ hlt.2 (fun hm => nk _ hm (by simp))).trans h1.frow, fun x hx => ?_, h1.bd, h1.ne, h1.hl, h1.n256, hlt'⟩, h2, h3, fun b hb => ⟨hlt' b hb, ?_⟩⟩, h5.ts t.ts h0⟩
  · obtain ⟨q1, q2, q3, q4⟩ := h1.rd x hx
    refine ⟨t.ts.rd q1 (fun ad ha hm => (q4 ad ha).2.2.2.2 (List.mem_append_right _ hm)), q2, q3, fun ad ha => ?_⟩
    obtain ⟨r1, r2, r3, r4, r5⟩ := q4 ad ha
    exact ⟨Nat.lt_of_lt_of_le r1 t.ts.size, r2, r3, r4, fun hm => (hI _ hm).elim r5 (fun h => by omega)⟩
  · rcases hI b hb with h | h
    · exact (h4 b h).2
    · exact new b h
/-- What has come may be owned by the one or the other. -/
theorem PoA.same {K₂ : List Nat} (h : PoA w0 K g n gp gf st w) (hs : ∀ b, b ∈ K₂ ↔ b ∈ K) : PoA w0 K₂ g n gp gf st w := h.fewer (fun b hb => (hs b).1 hb)
end
end Go.Proofs.YtoidlmhebnlnbaaDoor
/- bytes.Trim by a zero byte: is anything left? -/
set_option linter.unusedVariables false
set_option linter.unusedSimpArgs false
namespace Go.Proofs.YtoidlmhebnlnbaaDoor
open Go.ChangeShapes Go.WideShapes Go.ChangeAt Go.RowKit
attribute [local go_sem] nb_nonneg nb_lt8 nb_lt64
set_option maxRecDepth 100000

theorem mem_trimz (xs : List Byte) : (∀ x ∈ trimz xs, x = 0#8) ↔ ∀ x ∈ xs, x = 0#8 := by
  have key : ∀ ys : List Byte, (∀ x ∈ ys.dropWhile (· == 0#8), x = 0#8) ↔ ∀ x ∈ ys, x = 0#8 := by
    intro ys
    induction ys with
    | nil => simp
    | cons y ys ih =>
      rw [List.dropWhile_cons]
      by_cases h : y = 0#8
      · subst h
        rw [if_pos (by simp), ih]
        simp
      · rw [if_neg (by simpa using h)]
  unfold trimz
  have := key xs.reverse
  simp only [List.mem_reverse] at this ⊢
  exact this
/-- What is left of a slice: nothing, exactly if all are zero. -/
def TrmR (xs : List Byte) (e : Ending) : Prop := ∃ A n c, e = .returned (.slice A n c) ∧ (n = 0 ↔ ∀ x ∈ xs, x = 0#8)
set_option maxHeartbeats 400000 in
theorem by_trimL (xs : List Byte) (A : Option Addr) (c : Nat) (w : World) (hx : xs.length ≤ 1000000000) (hc : xs.length ≤ c) (hm : c ≤ maxLen) (hr : Rd w A xs) :
    Calls Tryd.prog 63 #[.slice A xs.length c, .int .u8 0] w fun e w' => TrmR xs e ∧ w = w' := by
  have HR := Lib.hid hr
  have HX := Lib.hid hx
  have HC := Lib.hid (And.intro hc hm)
  clear hr hm hx hc
  go_enter Tryd.func63, Tryd.ntmps63
  go_wp2_with fail
  go_loop [0] (fun s => ∃ (A' : Option Addr) (ys : List Byte) (c' : Nat), s = .slice A' ys.length c' ∧ Hid (ys.length ≤ c' ∧ c' ≤ maxLen ∧ ys.length ≤ xs.length ∧ Rd w A' ys ∧ ((∀ x ∈ ys, x = 0#8) ↔ ∀ x ∈ xs, x = 0#8))) (fun s => match s with | .slice _ k _ => k | _ => 0)
  case atStart => exact ⟨A, xs, c, rfl, Lib.hid ⟨HC.out.1, HC.out.2, Nat.le_refl _, HR.out, Iff.rfl⟩⟩
  case round =>
    obtain ⟨A', ys, c', rfl, H⟩ := hrel
    cases ys with
    | nil =>
      go_wp2
      go_ret
      exact ⟨⟨none, 0, 0, rfl, by have := H.out.2.2.2.2; simp at this; simpa using this⟩, rfl⟩
    | cons y ys =>
      obtain ⟨b, o, rfl, -, hcs⟩ := H.out.2.2.2.1.form (by simp)
      have hcell := hcs 0 (by simp)
      simp only [List.getElem_cons_zero, Nat.add_zero] at hcell
      unfold vb at hcell
      obtain ⟨A2, hcut, hrd, -⟩ := cut_lo (some ⟨b, o, none⟩) c' (y :: ys) 1 (by simp) H.out.1
      have hrd2 := hrd w H.out.2.2.2.1
      have HRD := Lib.hid hrd2
      rw [show ((1 : Nat) : Int) = 1 from rfl, show (y :: ys).length - 1 = ys.length from by simp] at hcut
      have hl : (((y :: ys).length : Nat) : Int) = (ys.length : Int) + 1 := by simp
      have h0 : (0 : Int) < (ys.length : Int) + 1 := by omega
      have hn0 : ¬ (ys.length : Int) + 1 = 0 := by omega
      have HLY := Lib.hid (show (y :: ys).length = ys.length + 1 from rfl)
      obtain ⟨m, hm⟩ : ∃ m, m = (y :: ys).length := ⟨_, rfl⟩
      have HM := Lib.hid hm
      have hm0 : 0 < m := by rw [hm]; simp
      have hm1 : (0 : Int) < (m : Int) := by omega
      have hm2 : ¬ (m : Int) = 0 := by omega
      rw [← hm] at hcut ⊢
      clear hcs hm hrd hrd2 hl h0 hn0
      by_cases hy : y = 0#8
      · subst hy
        have hb : (nb 0#8 == 0) = true := rfl
        have hz : nb (0#8) = 0 := rfl
        rw [hz] at hcell
        clear hb hz
        go_wp2
        go_round
        case rel => exact ⟨A2, ys, c' - 1, rfl, Lib.hid (by
          obtain ⟨q1, q2, q3, q4, q5⟩ := H.out
          have := HLY.out
          exact ⟨by omega, by omega, by omega, HRD.out, by simpa using q5⟩)⟩
        case measure => (show ys.length < m; rw [HM.out, HLY.out]; omega)
      · have hb : (nb y == 0) = false := by rw [nb_beq0]; simpa using hy
        have HN := Lib.hid (show ¬ ∀ x ∈ xs, x = 0#8 from fun hh => hy (H.out.2.2.2.2.2 hh y (by simp)))
        clear hy
        go_wp2
        go_ret
        exact ⟨⟨_, m, c', rfl, by have h1 := HN.out; exact ⟨fun e => by omega, fun e => absurd e h1⟩⟩, rfl⟩
set_option maxHeartbeats 400000 in
theorem by_TrimB (xs : List Byte) (A : Option Addr) (c : Nat) (w : World) (hx : xs.length ≤ 1000000000) (hc : xs.length ≤ c) (hm : c ≤ maxLen) (hr : Rd w A xs) :
    Calls Tryd.prog 51 #[.slice A xs.length c, .string ⟨#[0]⟩] w fun e w' => TrmR xs e ∧ FB w w' := by
  have HR := Lib.hid hr
  have HC := Lib.hid (And.intro hx (And.intro hc hm))
  clear hc hm hr hx
  cases xs with
  | nil =>
    go_enter Tryd.func51, Tryd.ntmps51
    go_wp2
    go_ret
    exact ⟨⟨none, 0, 0, rfl, by simp⟩, FB.refl _⟩
  | cons y ys =>
    have hl : (((y :: ys).length : Int) == 0) = false := by simp; omega
    have hl2 : ¬ ((y :: ys).length : Int) = 0 := by simp; omega
    generalize hxs : (y :: ys) = xs at *
    clear hxs
    go_enter Tryd.func51, Tryd.ntmps51
    go_upto_region 6 with fail
    clear hl hl2
    obtain ⟨W0, hW0⟩ : ∃ W0 : World, W0 = w := ⟨_, rfl⟩
    rw [← hW0]
    refine region_sch (E := FB) ((0, true) :: (1, true) :: (2, true) :: (4, true) :: (5, true) :: (3, false) :: (6, false) :: (7, true) :: []) (by kernel_rfl) FB.refl fb_trans (fun _ _ d _ _ h => by cases d <;> exact h) (by kernel_rfl) ?_
    intro ops hops0
    have hops := Lib.hid hops0
    clear hops0
    have HF : FB W0 W0.drew := (FB.refl _).drew
    generalize W0.drew = wF at *
    rw [hW0] at HF
    have HF0 := Lib.hid HF
    have HCA := Lib.hid (by_trimB xs A c wF HC.out.1 HC.out.2.1 HC.out.2.2 (HF.rd HR.out))
    have HCB := Lib.hid (by_trimL (trimz xs) A c wF (Nat.le_trans (trimz_len xs) HC.out.1) (Nat.le_trans (trimz_len xs) HC.out.2.1) HC.out.2.2 (by rw [trimz_pre xs]; exact (HF.rd HR.out).take _))
    clear hW0 HF
    repeat (refine sch_take (o := ?_) (v := ?_) (a' := ?_) (at_of hops.out ?_) ?_ (fun W hW => ?_) ?_ ?_; rotate_left 3; (focus (simp only [List.getElem?_toArray, List.getElem?_cons_zero, List.getElem?_cons_succ]; rfl)); (focus (rw [hops.out]; rfl)); (focus (go_simp; with_reducible rfl)); (focus (simp only [Act.put, List.setIfInBounds_toArray, List.set_cons_zero, List.set_cons_succ]; rfl)))
    (refine sch_call (o := ?_) (f := ?_) (args := ?_) (at_of hops.out ?_) ?_ ?_ ?_; rotate_left 3; (focus (simp only [List.getElem?_toArray, List.getElem?_cons_zero, List.getElem?_cons_succ]; rfl)); (focus (rw [hops.out]; rfl)); (focus (go_simp; constructor <;> with_reducible rfl)); (first | ((refine HCA.out.mono ?_); rintro e w2 ⟨rfl, rfl⟩; refine ⟨_, rfl, FB.refl _, ?_⟩; intro a' ha'; simp only [Act.put, List.setIfInBounds_toArray, List.set_cons_zero, List.set_cons_succ] at ha'; subst ha')))
    (refine sch_call (o := ?_) (f := ?_) (args := ?_) (at_of hops.out ?_) ?_ ?_ ?_; rotate_left 3; (focus (simp only [List.getElem?_toArray, List.getElem?_cons_zero, List.getElem?_cons_succ]; rfl)); (focus (rw [hops.out]; rfl)); (focus (go_simp; constructor <;> with_reducible rfl)); (first | ((refine HCB.out.mono ?_); rintro e w2 ⟨⟨A3, n3, c3, rfl, hn⟩, rfl⟩; refine ⟨_, rfl, FB.refl _, ?_⟩; intro a' ha'; simp only [Act.put, List.setIfInBounds_toArray, List.set_cons_zero, List.set_cons_succ] at ha'; subst ha')))
    have HN := Lib.hid (hn.trans (mem_trimz xs))
    clear hn
    repeat (refine sch_take (o := ?_) (v := ?_) (a' := ?_) (at_of hops.out ?_) ?_ (fun W hW => ?_) ?_ ?_; rotate_left 3; (focus (simp only [List.getElem?_toArray, List.getElem?_cons_zero, List.getElem?_cons_succ]; rfl)); (focus (rw [hops.out]; rfl)); (focus (go_simp; with_reducible rfl)); (focus (simp only [Act.put, List.setIfInBounds_toArray, List.set_cons_zero, List.set_cons_succ]; rfl)))
    refine sch_done ?_
    clear hops
    go_wp2
    go_ret
    exact ⟨⟨A3, n3, c3, rfl, HN.out⟩, HF0.out⟩
end Go.Proofs.YtoidlmhebnlnbaaDoor
