/- A region whose order is open and whose last operation, behind all others, is a store into what the others read. -/
import Derived.Test.YtoidlmhebnlnbaaSched
set_option linter.unusedVariables false
set_option linter.unusedSimpArgs false
namespace Go.Proofs.Ytoidlmhebnlnbaa

section
variable {P : Program} {ops : Array Oper} {Q : Exit → Act → World → Prop} {md : Region.Mode} {E : World → World → Prop} {s : Nat}

/-- Behind the others the operation s. -/
def withLast (P : Program) (ops : Array Oper) (Q : Exit → Act → World → Prop) (s : Nat) : Exit → Act → World → Prop
  | .normal, a, w => wpOp P ops Q s (fun a' w' => Q .normal a' w') a w
  | e, a, w => Q e a w

theorem Oper.wp_withLast {o : Oper} {a : Act} {w : World} {K : Act → World → Prop} (h : o.wp P a w K (withLast P ops Q s)) : o.wp P a w K Q := by
  unfold Oper.wp at *
  generalize (execOp a.eval o).run P w = r at *
  cases r with
  | ok n w' => cases n <;> exact h
  | halt x w' => cases x <;> exact h
theorem wpOp_withLast {i : Nat} {a : Act} {w : World} {K : Act → World → Prop} (h : wpOp P ops (withLast P ops Q s) i K a w) : wpOp P ops Q i K a w := by
  unfold wpOp at *
  split
  · simpa [*] using h
  · rename_i o ho
    simp only [ho] at h
    split
    · rename_i hw
      rw [if_pos hw] at h
      exact h.imp Oper.wp_withLast id
    · rename_i hw
      rw [if_neg hw] at h
      exact h

def anyS (P : Program) (md : Region.Mode) (ops : Array Oper) (Q : Exit → Act → World → Prop) (E : World → World → Prop) (s : Nat) : Nat → Array Bool → Act → World → Prop
  | 0, listed, a, w => Region.ready md ops listed = [] ∧ Q .normal a w
  | fuel + 1, listed, a, w =>
    (Region.ready md ops listed = [] → Q .normal a w) ∧
    ∀ i ∈ Region.ready md ops listed, wpOp P ops Q i (fun a' w' => (i ≠ s → E w w') ∧ anyS P md ops Q E s fuel (listed.setIfInBounds i true) a' w') a w
theorem wpAny_of_anyS : ∀ (fuel : Nat) (listed : Array Bool) (a : Act) (w : World), anyS P md ops Q E s fuel listed a w → wpAny P md ops Q fuel listed a w
  | 0, _, _, _, h => h
  | fuel + 1, _, _, _, h => ⟨h.1, fun i hi => wpOp_mono (fun a' w' h' => wpAny_of_anyS fuel _ a' w' h'.2) (h.2 i hi)⟩

/-- Does s stand behind i? -/
def behind (md : Region.Mode) (ops : Array Oper) (s i : Nat) : Bool := match ops[s]? with | some o => o.after.toList.any fun e => Region.binds md e && e.on == i | none => false
theorem behind_spec {i : Nat} (h : behind md ops s i = true) {o : Oper} (ho : ops[s]? = some o) : ∃ e ∈ o.after, Region.binds md e = true ∧ e.on = i := by
  unfold behind at h
  rw [ho] at h
  simp only [List.any_eq_true, Bool.and_eq_true, beq_iff_eq] at h
  obtain ⟨e, he, h1, h2⟩ := h
  exact ⟨e, by simpa using he, h1, h2⟩

theorem anyS_first {i : Nat} {oi : Oper} {v : Value} (hrf : ∀ w, E w w) (htr : ∀ x y z, E x y → E y z → E x z) (hi : ops[i]? = some oi) (hsel : ∀ (j : Nat) (o : Oper) cs b, ops[j]? = some o → o.op ≠ .select cs b)
    (hQ : ∀ c a w, Q (.panic c) (a.put oi.dst v) w → Q (.panic c) a w) (hbe : behind md ops s i = true) :
    ∀ (fuel : Nat) (listed : Array Bool) (a : Act) (w : World),
      (∀ j oj, ops[j]? = some oj → j ≠ i → listed.getD j true = false → (∀ e ∈ oj.after, Region.binds md e = true → e.on ≠ i) → oi.apart ops oj = true) →
      i ∈ Region.ready md ops listed → YieldsIf P ops (E w) oi v a →
      anyS P md ops Q E s fuel (listed.setIfInBounds i true) (a.put oi.dst v) w → anyS P md ops Q E s (fuel + 1) listed a w := by
  intro fuel
  induction fuel with
  | zero =>
    intro listed a w _ hr hy H
    refine ⟨fun h => (by rw [h] at hr; cases hr), fun j hj => ?_⟩
    by_cases hji : j = i
    · subst hji; exact hy.wpOp hi (hrf w) ⟨fun _ => hrf w, H⟩
    · have := ready_mono hj hji
      rw [H.1] at this
      cases this
  | succ fuel ih =>
    intro listed a w hfree hr hy H
    refine ⟨fun h => (by rw [h] at hr; cases hr), fun j hj => ?_⟩
    by_cases hji : j = i
    · subst hji; exact hy.wpOp hi (hrf w) ⟨fun _ => hrf w, H⟩
    · have h1 := H.2 j (ready_mono hj hji)
      obtain ⟨hjun, oj, hoj, hall⟩ := mem_ready.1 hj
      have hnot : ∀ e ∈ oj.after, Region.binds md e = true → e.on ≠ i := fun e he hb heq => by
        have h1 := hall e he hb
        have h0 := (mem_ready.1 hr).1
        rw [heq] at h1
        rcases Nat.lt_or_ge i listed.size with h' | h'
        · simp [h'] at h0 h1; rw [h0] at h1; cases h1
        · simp [Array.getElem?_eq_none h'] at h1
      have hjs : j ≠ s := fun e => by
        subst e
        obtain ⟨x, hx1, hx2, hx3⟩ := behind_spec hbe hoj
        exact hnot x hx1 hx2 hx3
      have h2 := wpOp_putIf hoj (hfree j oj hoj hji hjun hnot) (fun cs b => hsel i oi cs b hi) (fun cs b => hsel j oj cs b hoj) hQ hy h1
      have hfree' : ∀ k ok, ops[k]? = some ok → k ≠ i → (listed.setIfInBounds j true).getD k true = false →
          (∀ e ∈ ok.after, Region.binds md e = true → e.on ≠ i) → oi.apart ops ok = true := fun k ok hk hki hun hno => by
        refine hfree k ok hk hki ?_ hno
        by_cases hjk : j = k
        · subst hjk; exact hjun
        · rw [getD_set_ne true hjk] at hun; exact hun
      refine wpOp_mono (fun a' w' h3 => ⟨fun _ => h3.2.1 hjs, ih (listed.setIfInBounds j true) a' w' hfree' (ready_mono hr (Ne.symm hji)) (yieldsE_mono h3.1 fun W hW => htr _ _ _ (h3.2.1 hjs) hW) ?_⟩) h2
      rw [Array.setIfInBounds_comm _ _ hji]
      exact h3.2.2

def okL (md : Region.Mode) (ops : Array Oper) (s : Nat) : List (Nat × Bool) → Array Bool → Bool
  | [], listed => Region.ready md ops listed == [s] && Region.ready md ops (listed.setIfInBounds s true) == []
  | (i, b) :: σ, listed => (if b then (Region.ready md ops listed).contains i && Region.free md ops listed i && behind md ops s i else Region.ready md ops listed == [i] && i != s) && okL md ops s σ (listed.setIfInBounds i true)

theorem anyS_of_sch (hrf : ∀ w, E w w) (htr : ∀ x y z, E x y → E y z → E x z) (hs : Region.noSelect ops = true) (hQ : ∀ c a d v w, Q (.panic c) (Act.put a d v) w → Q (.panic c) a w) :
    ∀ (σ : List (Nat × Bool)) (listed : Array Bool) (a : Act) (w : World), okL md ops s σ listed = true → wpSch P ops (withLast P ops Q s) E σ a w → anyS P md ops Q E s (σ.length + 1) listed a w := by
  intro σ
  induction σ with
  | nil =>
    intro listed a w hok h
    simp only [okL, Bool.and_eq_true, beq_iff_eq] at hok
    refine ⟨fun h0 => (by rw [h0] at hok; cases hok.1), fun j hj => ?_⟩
    rw [hok.1, List.mem_singleton] at hj
    subst hj
    exact wpOp_mono (fun a' w' h' => ⟨fun hne => absurd rfl hne, hok.2, h'⟩) h
  | cons x σ ih =>
    obtain ⟨i, b⟩ := x
    intro listed a w hok h
    simp only [okL, Bool.and_eq_true] at hok
    obtain ⟨hok1, hok2⟩ := hok
    cases b with
    | true =>
      simp only [if_true, Bool.and_eq_true] at hok1
      simp only [wpSch, if_true] at h
      obtain ⟨o, v, hi, hy, h⟩ := h
      exact anyS_first hrf htr hi (Region.noSelect_spec hs) (fun c a w => hQ c a _ _ w) hok1.2 (σ.length + 1) listed a w (Region.free_spec hi hok1.1.2) (by simpa using hok1.1.1) hy (ih _ _ _ hok2 h)
    | false =>
      simp only [Bool.false_eq_true, if_false, Bool.and_eq_true, beq_iff_eq] at hok1
      have hr : Region.ready md ops listed = [i] := hok1.1
      simp only [wpSch, Bool.false_eq_true, if_false] at h
      refine ⟨fun h0 => (by rw [h0] at hr; cases hr), fun j hj => ?_⟩
      rw [hr, List.mem_singleton] at hj
      subst hj
      exact wpOp_mono (fun a' w' h' => ⟨fun _ => h'.1, ih _ _ _ hok2 h'.2⟩) (wpOp_withLast h)

/-- THE BEGINNING: the region, by the order σ, and s last. -/
theorem region_schL {id : Nat} {a : Act} {w : World} (s : Nat) (σ : List (Nat × Bool)) (hm : P.follows .mixedOrders = true) (hrf : ∀ w, E w w) (htr : ∀ x y z, E x y → E y z → E x z)
    (hQ : ∀ c a d v w, Q (.panic c) (Act.put a d v) w → Q (.panic c) a w) (hok : (Region.noSelect ops && σ.length + 1 == ops.size && okL .any ops s σ (Array.replicate ops.size false)) = true)
    (h : ∀ ops', ops' = ops → wpSch P ops' (withLast P ops' Q s) E σ a w.drew) : (Code.region id ops true).wp P Q a w := by
  replace h := h ops rfl
  simp only [Bool.and_eq_true, beq_iff_eq] at hok
  obtain ⟨⟨h1, h2⟩, h3⟩ := hok
  refine wp_region_any hm (wpAny_of_anyS (E := E) (s := s) _ _ _ _ ?_)
  rw [← h2] at h3 ⊢
  exact anyS_of_sch hrf htr h1 hQ σ _ _ _ h3 h
/-- The last operation, where it is a store. -/
theorem schL_store {o : Oper} {a : Act} {w w' : World} (hi : ops[s]? = some o) (hw : Region.wanted o (yielded ops a.tmps) = true) (ty : TypeId) (x y : Operand) (ho : o.op = .store ty x y)
    (vx vy : Value) (hx : a.eval x = vx) (hy : a.eval y = vy) (hr : (Instr.storeAt ty vx vy).run P w = .ok () w') (h : Q .normal (a.put o.dst undef) w') : wpSch P ops (withLast P ops Q s) E [] a w := by
  show wpOp P ops Q s (fun a' w' => Q .normal a' w') a w
  unfold wpOp
  simp only [hi, hw, if_true]
  refine .inl ?_
  unfold Oper.wp execOp
  subst hx hy
  simp only [ho, Sem.run_bind, Sem.run_pure, Result.andThen_ok, hr]
  exact h
end
end Go.Proofs.Ytoidlmhebnlnbaa
