/- A region whose order is open: two operations may come up in either order (a tree of orders), and a tail of operations stands behind all others. -/
import Derived.Test.YtoidlmhebnlnbaaSchL
set_option linter.unusedVariables false
set_option linter.unusedSimpArgs false
namespace Go.Proofs.Ytoidlmhebnlnbaa

/-- What follows an order: nothing; or two orders, the one or the other. -/
inductive Alt where
  | leaf : Alt
  | two (σ₁ : List (Nat × Bool)) (T₁ : Alt) (σ₂ : List (Nat × Bool)) (T₂ : Alt) : Alt
  | three (σ₁ : List (Nat × Bool)) (T₁ : Alt) (σ₂ : List (Nat × Bool)) (T₂ : Alt) (σ₃ : List (Nat × Bool)) (T₃ : Alt) : Alt
section
variable {P : Program} {ops : Array Oper} {Q : Exit → Act → World → Prop} {md : Region.Mode} {E : World → World → Prop}

/-- Whatever may be done to the world. -/
def anyW (_ _ : World) : Prop := True
/-- Behind the others N. -/
def exitTo (Q : Exit → Act → World → Prop) (N : Act → World → Prop) : Exit → Act → World → Prop
  | .normal, a, w => N a w
  | e, a, w => Q e a w
def contN (P : Program) (ops : Array Oper) (Q : Exit → Act → World → Prop) (E : World → World → Prop) (σB : List (Nat × Bool)) : Alt → Act → World → Prop
  | .leaf => wpSch P ops Q anyW σB
  | .two σ₁ T₁ σ₂ T₂ => fun a w => wpSch P ops (exitTo Q (contN P ops Q E σB T₁)) E σ₁ a w ∧ wpSch P ops (exitTo Q (contN P ops Q E σB T₂)) E σ₂ a w
  | .three σ₁ T₁ σ₂ T₂ σ₃ T₃ => fun a w => wpSch P ops (exitTo Q (contN P ops Q E σB T₁)) E σ₁ a w ∧ wpSch P ops (exitTo Q (contN P ops Q E σB T₂)) E σ₂ a w ∧ wpSch P ops (exitTo Q (contN P ops Q E σB T₃)) E σ₃ a w
theorem Oper.wp_exitTo {o : Oper} {a : Act} {w : World} {K N : Act → World → Prop} (h : o.wp P a w K (exitTo Q N)) : o.wp P a w K Q := by
  unfold Oper.wp at *
  generalize (execOp a.eval o).run P w = r at *
  cases r with
  | ok n w' => cases n <;> exact h
  | halt x w' => cases x <;> exact h
theorem wpOp_exitTo {i : Nat} {a : Act} {w : World} {K N : Act → World → Prop} (h : wpOp P ops (exitTo Q N) i K a w) : wpOp P ops Q i K a w := by
  unfold wpOp at *
  split
  · simpa [*] using h
  · rename_i o ho
    simp only [ho] at h
    split
    · rename_i hw
      rw [if_pos hw] at h
      exact h.imp Oper.wp_exitTo id
    · rename_i hw
      rw [if_neg hw] at h
      exact h

def anyB (P : Program) (md : Region.Mode) (ops : Array Oper) (Q : Exit → Act → World → Prop) (E : World → World → Prop) (B : Nat → Bool) : Nat → Array Bool → Act → World → Prop
  | 0, listed, a, w => Region.ready md ops listed = [] ∧ Q .normal a w
  | fuel + 1, listed, a, w =>
    (Region.ready md ops listed = [] → Q .normal a w) ∧
    ∀ i ∈ Region.ready md ops listed, wpOp P ops Q i (fun a' w' => (B i = false → E w w') ∧ anyB P md ops Q E B fuel (listed.setIfInBounds i true) a' w') a w
theorem wpAny_of_anyB {B : Nat → Bool} : ∀ (fuel : Nat) (listed : Array Bool) (a : Act) (w : World), anyB P md ops Q E B fuel listed a w → wpAny P md ops Q fuel listed a w
  | 0, _, _, _, h => h
  | fuel + 1, _, _, _, h => ⟨h.1, fun i hi => wpOp_mono (fun a' w' h' => wpAny_of_anyB fuel _ a' w' h'.2) (h.2 i hi)⟩

theorem anyB_first {B : Nat → Bool} {i : Nat} {oi : Oper} {v : Value} (hrf : ∀ w, E w w) (htr : ∀ x y z, E x y → E y z → E x z) (hi : ops[i]? = some oi) (hsel : ∀ (j : Nat) (o : Oper) cs b, ops[j]? = some o → o.op ≠ .select cs b)
    (hQ : ∀ c a w, Q (.panic c) (a.put oi.dst v) w → Q (.panic c) a w) (hbe : ∀ t, B t = true → behind md ops t i = true) :
    ∀ (fuel : Nat) (listed : Array Bool) (a : Act) (w : World),
      (∀ j oj, ops[j]? = some oj → j ≠ i → listed.getD j true = false → (∀ e ∈ oj.after, Region.binds md e = true → e.on ≠ i) → oi.apart ops oj = true) →
      i ∈ Region.ready md ops listed → YieldsIf P ops (E w) oi v a →
      anyB P md ops Q E B fuel (listed.setIfInBounds i true) (a.put oi.dst v) w → anyB P md ops Q E B (fuel + 1) listed a w := by
  intro fuel
  induction fuel with
  | zero =>
    intro listed a w _ hr hy H
    refine ⟨fun h => (by rw [h] at hr; cases hr), fun j hj => ?_⟩
    by_cases hji : j = i
    · subst hji; exact hy.wpOp hi (hrf w) ⟨fun _ => hrf w, H⟩
    · have := ready_mono hj hji
      rw [H.1] at this
      cases this
  | succ fuel ih =>
    intro listed a w hfree hr hy H
    refine ⟨fun h => (by rw [h] at hr; cases hr), fun j hj => ?_⟩
    by_cases hji : j = i
    · subst hji; exact hy.wpOp hi (hrf w) ⟨fun _ => hrf w, H⟩
    · have h1 := H.2 j (ready_mono hj hji)
      obtain ⟨hjun, oj, hoj, hall⟩ := mem_ready.1 hj
      have hnot : ∀ e ∈ oj.after, Region.binds md e = true → e.on ≠ i := fun e he hb heq => by
        have h1 := hall e he hb
        have h0 := (mem_ready.1 hr).1
        rw [heq] at h1
        rcases Nat.lt_or_ge i listed.size with h' | h'
        · simp [h'] at h0 h1; rw [h0] at h1; cases h1
        · simp [Array.getElem?_eq_none h'] at h1
      have hjs : B j = false := by
        cases hB : B j with
        | false => rfl
        | true =>
          obtain ⟨x, hx1, hx2, hx3⟩ := behind_spec (hbe j hB) hoj
          exact absurd hx3 (hnot x hx1 hx2)
      have h2 := wpOp_putIf hoj (hfree j oj hoj hji hjun hnot) (fun cs b => hsel i oi cs b hi) (fun cs b => hsel j oj cs b hoj) hQ hy h1
      have hfree' : ∀ k ok, ops[k]? = some ok → k ≠ i → (listed.setIfInBounds j true).getD k true = false →
          (∀ e ∈ ok.after, Region.binds md e = true → e.on ≠ i) → oi.apart ops ok = true := fun k ok hk hki hun hno => by
        refine hfree k ok hk hki ?_ hno
        by_cases hjk : j = k
        · subst hjk; exact hjun
        · rw [getD_set_ne true hjk] at hun; exact hun
      refine wpOp_mono (fun a' w' h3 => ⟨fun _ => h3.2.1 hjs, ih (listed.setIfInBounds j true) a' w' hfree' (ready_mono hr (Ne.symm hji)) (yieldsE_mono h3.1 fun W hW => htr _ _ _ (h3.2.1 hjs) hW) ?_⟩) h2
      rw [Array.setIfInBounds_comm _ _ hji]
      exact h3.2.2

def inB (σB : List (Nat × Bool)) (t : Nat) : Bool := σB.any fun p => p.1 == t
def okB (md : Region.Mode) (ops : Array Oper) (σB : List (Nat × Bool)) : Nat → List (Nat × Bool) → Alt → Array Bool → Bool
  | n, [], .leaf, l => n == σB.length && okS md ops σB l && (List.range ops.size).all fun i => l.getD i true || inB σB i
  | n + 1, (i, b) :: σ, T, l => (if b then (Region.ready md ops l).contains i && Region.free md ops l i && σB.all fun p => behind md ops p.1 i else Region.ready md ops l == [i]) && okB md ops σB n σ T (l.setIfInBounds i true)
  | n + 1, [], .two ((i, false) :: σ₁) T₁ ((j, false) :: σ₂) T₂, l => Region.ready md ops l == [i, j] && okB md ops σB n σ₁ T₁ (l.setIfInBounds i true) && okB md ops σB n σ₂ T₂ (l.setIfInBounds j true)
  | n + 1, [], .three ((i, false) :: σ₁) T₁ ((j, false) :: σ₂) T₂ ((k, false) :: σ₃) T₃, l => Region.ready md ops l == [i, j, k] && okB md ops σB n σ₁ T₁ (l.setIfInBounds i true) && okB md ops σB n σ₂ T₂ (l.setIfInBounds j true) && okB md ops σB n σ₃ T₃ (l.setIfInBounds k true)
  | _, _, _, _ => false

theorem ready_lt {l : Array Bool} {i : Nat} (h : i ∈ Region.ready md ops l) : i < ops.size ∧ l.getD i true = false := by
  obtain ⟨h1, o, h2, -⟩ := mem_ready.1 h
  exact ⟨(Array.getElem?_eq_some_iff.1 h2).1, h1⟩
theorem anyB_of_anyE {B : Nat → Bool} : ∀ (fuel : Nat) (listed : Array Bool) (a : Act) (w : World), (∀ i, i < ops.size → listed.getD i true = false → B i = true) → anyE P md ops Q anyW fuel listed a w → anyB P md ops Q E B fuel listed a w
  | 0, _, _, _, _, h => h
  | fuel + 1, listed, _, _, hB, h => ⟨h.1, fun i hi => wpOp_mono (fun a' w' h' => ⟨fun hb => (by
      have := hB i (ready_lt hi).1 (ready_lt hi).2
      rw [this] at hb; cases hb), anyB_of_anyE fuel _ a' w' (fun j hj hun => by
        refine hB j hj ?_
        by_cases e : i = j
        · subst e; exact (ready_lt hi).2
        · rw [getD_set_ne true e] at hun; exact hun) h'.2⟩) (h.2 i hi)⟩
theorem anyB_of_sch (hrf : ∀ w, E w w) (htr : ∀ x y z, E x y → E y z → E x z) (hs : Region.noSelect ops = true) (hQ : ∀ c a d v w, Q (.panic c) (Act.put a d v) w → Q (.panic c) a w) (σB : List (Nat × Bool)) :
    ∀ (n : Nat) (σ : List (Nat × Bool)) (T : Alt) (listed : Array Bool) (a : Act) (w : World), okB md ops σB n σ T listed = true → wpSch P ops (exitTo Q (contN P ops Q E σB T)) E σ a w → anyB P md ops Q E (inB σB) n listed a w := by
  have leaf : ∀ (n : Nat) (listed : Array Bool) (a : Act) (w : World), (n == σB.length && okS md ops σB listed && (List.range ops.size).all fun i => listed.getD i true || inB σB i) = true → wpSch P ops Q anyW σB a w → anyB P md ops Q E (inB σB) n listed a w := by
    intro n listed a w hok h
    simp only [Bool.and_eq_true, beq_iff_eq, List.all_eq_true, List.mem_range, Bool.or_eq_true] at hok
    obtain ⟨⟨rfl, h2⟩, h3⟩ := hok
    refine anyB_of_anyE _ _ _ _ (fun i hi hun => (h3 i hi).resolve_left (by rw [hun]; simp)) (anyE_of_sch (E := anyW) (fun _ => trivial) (fun _ _ _ _ _ => trivial) hs hQ σB listed a w h2 h)
  intro n
  induction n with
  | zero =>
    intro σ T listed a w hok h
    cases σ with
    | nil =>
      cases T with
      | leaf => simp only [okB] at hok; exact leaf 0 listed a w hok h
      | two => simp [okB] at hok
      | three => simp [okB] at hok
    | cons x σ => simp [okB] at hok
  | succ n ih =>
    intro σ T listed a w hok h
    cases σ with
    | nil =>
      cases T with
      | leaf => simp only [okB] at hok; exact leaf (n + 1) listed a w hok h
      | two σ₁ T₁ σ₂ T₂ =>
        match σ₁, σ₂, hok, h with
        | (i, false) :: σ₁, (j, false) :: σ₂, hok, h =>
          simp only [okB, Bool.and_eq_true, beq_iff_eq] at hok
          obtain ⟨⟨hr, h1⟩, h2⟩ := hok
          simp only [wpSch, exitTo, contN, Bool.false_eq_true, if_false] at h
          refine ⟨fun h0 => (by rw [h0] at hr; cases hr), fun k hk => ?_⟩
          rw [hr] at hk
          simp only [List.mem_cons, List.not_mem_nil, or_false] at hk
          rcases hk with rfl | rfl
          · exact wpOp_mono (fun a' w' h' => ⟨fun _ => h'.1, ih _ _ _ _ _ h1 h'.2⟩) (wpOp_exitTo h.1)
          · exact wpOp_mono (fun a' w' h' => ⟨fun _ => h'.1, ih _ _ _ _ _ h2 h'.2⟩) (wpOp_exitTo h.2)
        | [], _, hok, _ => simp [okB] at hok
        | (_, true) :: _, _, hok, _ => simp [okB] at hok
        | (_, false) :: _, [], hok, _ => simp [okB] at hok
        | (_, false) :: _, (_, true) :: _, hok, _ => simp [okB] at hok
      | three σ₁ T₁ σ₂ T₂ σ₃ T₃ =>
        match σ₁, σ₂, σ₃, hok, h with
        | (i, false) :: σ₁, (j, false) :: σ₂, (l, false) :: σ₃, hok, h =>
          simp only [okB, Bool.and_eq_true, beq_iff_eq] at hok
          obtain ⟨⟨⟨hr, h1⟩, h2⟩, h3⟩ := hok
          simp only [wpSch, exitTo, contN, Bool.false_eq_true, if_false] at h
          refine ⟨fun h0 => (by rw [h0] at hr; cases hr), fun k hk => ?_⟩
          rw [hr] at hk
          simp only [List.mem_cons, List.not_mem_nil, or_false] at hk
          rcases hk with rfl | rfl | rfl
          · exact wpOp_mono (fun a' w' h' => ⟨fun _ => h'.1, ih _ _ _ _ _ h1 h'.2⟩) (wpOp_exitTo h.1)
          · exact wpOp_mono (fun a' w' h' => ⟨fun _ => h'.1, ih _ _ _ _ _ h2 h'.2⟩) (wpOp_exitTo h.2.1)
          · exact wpOp_mono (fun a' w' h' => ⟨fun _ => h'.1, ih _ _ _ _ _ h3 h'.2⟩) (wpOp_exitTo h.2.2)
        | [], _, _, hok, _ => simp [okB] at hok
        | (_, true) :: _, _, _, hok, _ => simp [okB] at hok
        | (_, false) :: _, [], _, hok, _ => simp [okB] at hok
        | (_, false) :: _, (_, true) :: _, _, hok, _ => simp [okB] at hok
        | (_, false) :: _, (_, false) :: _, [], hok, _ => simp [okB] at hok
        | (_, false) :: _, (_, false) :: _, (_, true) :: _, hok, _ => simp [okB] at hok
    | cons x σ =>
      obtain ⟨i, b⟩ := x
      have hok' : ((if b then (Region.ready md ops listed).contains i && Region.free md ops listed i && σB.all fun p => behind md ops p.1 i else Region.ready md ops listed == [i]) && okB md ops σB n σ T (listed.setIfInBounds i true)) = true := by
        cases T <;> simpa only [okB] using hok
      simp only [Bool.and_eq_true] at hok'
      obtain ⟨hok1, hok2⟩ := hok'
      cases b with
      | true =>
        simp only [if_true, Bool.and_eq_true, List.all_eq_true] at hok1
        simp only [wpSch, if_true] at h
        obtain ⟨o, v, hi, hy, h⟩ := h
        refine anyB_first hrf htr hi (Region.noSelect_spec hs) (fun c a w => hQ c a _ _ w) (fun t ht => ?_) n listed a w (Region.free_spec hi hok1.1.2) (by simpa using hok1.1.1) hy (ih _ _ _ _ _ hok2 h)
        unfold inB at ht
        simp only [List.any_eq_true, beq_iff_eq] at ht
        obtain ⟨p, hp, rfl⟩ := ht
        exact hok1.2 p hp
      | false =>
        have hr : Region.ready md ops listed = [i] := by simpa using hok1
        simp only [wpSch, Bool.false_eq_true, if_false] at h
        refine ⟨fun h0 => (by rw [h0] at hr; cases hr), fun j hj => ?_⟩
        rw [hr, List.mem_singleton] at hj
        subst hj
        exact wpOp_mono (fun a' w' h' => ⟨fun _ => h'.1, ih _ _ _ _ _ hok2 h'.2⟩) (wpOp_exitTo h)

/-- What holds in every world may be taken ahead of all. -/
theorem anyB_pure {B : Nat → Bool} {i : Nat} {oi : Oper} {v : Value} (hrf : ∀ w, E w w) (hi : ops[i]? = some oi) (hsel : ∀ (j : Nat) (o : Oper) cs b, ops[j]? = some o → o.op ≠ .select cs b)
    (hQ : ∀ c a w, Q (.panic c) (a.put oi.dst v) w → Q (.panic c) a w) :
    ∀ (fuel : Nat) (listed : Array Bool) (a : Act) (w : World),
      (∀ j oj, ops[j]? = some oj → j ≠ i → listed.getD j true = false → (∀ e ∈ oj.after, Region.binds md e = true → e.on ≠ i) → oi.apart ops oj = true) →
      i ∈ Region.ready md ops listed → YieldsIf P ops (fun _ => True) oi v a →
      anyB P md ops Q E B fuel (listed.setIfInBounds i true) (a.put oi.dst v) w → anyB P md ops Q E B (fuel + 1) listed a w := by
  intro fuel
  induction fuel with
  | zero =>
    intro listed a w _ hr hy H
    refine ⟨fun h => (by rw [h] at hr; cases hr), fun j hj => ?_⟩
    by_cases hji : j = i
    · subst hji; exact hy.wpOp hi trivial ⟨fun _ => hrf w, H⟩
    · have := ready_mono hj hji
      rw [H.1] at this
      cases this
  | succ fuel ih =>
    intro listed a w hfree hr hy H
    refine ⟨fun h => (by rw [h] at hr; cases hr), fun j hj => ?_⟩
    by_cases hji : j = i
    · subst hji; exact hy.wpOp hi trivial ⟨fun _ => hrf w, H⟩
    · have h1 := H.2 j (ready_mono hj hji)
      obtain ⟨hjun, oj, hoj, hall⟩ := mem_ready.1 hj
      have hnot : ∀ e ∈ oj.after, Region.binds md e = true → e.on ≠ i := fun e he hb heq => by
        have h1 := hall e he hb
        have h0 := (mem_ready.1 hr).1
        rw [heq] at h1
        rcases Nat.lt_or_ge i listed.size with h' | h'
        · simp [h'] at h0 h1; rw [h0] at h1; cases h1
        · simp [Array.getElem?_eq_none h'] at h1
      have h2 := wpOp_putIf hoj (hfree j oj hoj hji hjun hnot) (fun cs b => hsel i oi cs b hi) (fun cs b => hsel j oj cs b hoj) hQ hy h1
      have hfree' : ∀ k ok, ops[k]? = some ok → k ≠ i → (listed.setIfInBounds j true).getD k true = false →
          (∀ e ∈ ok.after, Region.binds md e = true → e.on ≠ i) → oi.apart ops ok = true := fun k ok hk hki hun hno => by
        refine hfree k ok hk hki ?_ hno
        by_cases hjk : j = k
        · subst hjk; exact hjun
        · rw [getD_set_ne true hjk] at hun; exact hun
      refine wpOp_mono (fun a' w' h3 => ⟨h3.2.1, ih (listed.setIfInBounds j true) a' w' hfree' (ready_mono hr (Ne.symm hji)) h3.1 ?_⟩) h2
      rw [Array.setIfInBounds_comm _ _ hji]
      exact h3.2.2
def okC (md : Region.Mode) (ops : Array Oper) (σB : List (Nat × Bool)) : Nat → List (Nat × Bool) → List (Nat × Bool) → Alt → Array Bool → Bool
  | n, [], σ, T, l => okB md ops σB n σ T l
  | n + 1, (i, true) :: σ₀, σ, T, l => (Region.ready md ops l).contains i && Region.free md ops l i && okC md ops σB n σ₀ σ T (l.setIfInBounds i true)
  | _, _, _, _, _ => false
theorem anyB_of_pre (hrf : ∀ w, E w w) (htr : ∀ x y z, E x y → E y z → E x z) (hs : Region.noSelect ops = true) (hQ : ∀ c a d v w, Q (.panic c) (Act.put a d v) w → Q (.panic c) a w) (σB σ : List (Nat × Bool)) (T : Alt) :
    ∀ (n : Nat) (σ₀ : List (Nat × Bool)) (listed : Array Bool) (a : Act) (w : World), okC md ops σB n σ₀ σ T listed = true → wpSch P ops (exitTo Q (wpSch P ops (exitTo Q (contN P ops Q E σB T)) E σ)) anyW σ₀ a w → anyB P md ops Q E (inB σB) n listed a w := by
  intro n σ₀
  induction σ₀ generalizing n with
  | nil =>
    intro listed a w hok h
    exact anyB_of_sch hrf htr hs hQ σB n σ T listed a w (by cases n <;> simpa only [okC] using hok) h
  | cons x σ₀ ih =>
    obtain ⟨i, b⟩ := x
    intro listed a w hok h
    cases n with
    | zero => cases b <;> simp [okC] at hok
    | succ n =>
      cases b with
      | false => simp [okC] at hok
      | true =>
        simp only [okC, Bool.and_eq_true] at hok
        simp only [wpSch, if_true] at h
        obtain ⟨o, v, hi, hy, h⟩ := h
        exact anyB_pure hrf hi (Region.noSelect_spec hs) (fun c a w => hQ c a _ _ w) n listed a w (Region.free_spec hi hok.1.2) (by simpa using hok.1.1) (yieldsE_mono hy (fun _ _ => trivial)) (ih n _ _ _ hok.2 h)

/-- THE BEGINNING: the region, first what looks at no memory (σ₀), then the order σ, then the tree T, then the tail σB. -/
theorem region_schB {id : Nat} {a : Act} {w : World} (σ₀ σ : List (Nat × Bool)) (T : Alt) (σB : List (Nat × Bool)) (hm : P.follows .mixedOrders = true) (hrf : ∀ w, E w w) (htr : ∀ x y z, E x y → E y z → E x z)
    (hQ : ∀ c a d v w, Q (.panic c) (Act.put a d v) w → Q (.panic c) a w) (hok : (Region.noSelect ops && okC .any ops σB ops.size σ₀ σ T (Array.replicate ops.size false)) = true)
    (h : ∀ ops', ops' = ops → wpSch P ops' (exitTo Q (wpSch P ops' (exitTo Q (contN P ops' Q E σB T)) E σ)) anyW σ₀ a w.drew) : (Code.region id ops true).wp P Q a w := by
  replace h := h ops rfl
  simp only [Bool.and_eq_true] at hok
  exact wp_region_any hm (wpAny_of_anyB (E := E) (B := inB σB) _ _ _ _ (anyB_of_pre hrf htr hok.1 hQ σB σ T _ _ _ _ _ hok.2 h))
theorem schB_pre {N : Act → World → Prop} {a : Act} {w : World} (h : N a w) : exitTo Q N .normal a w := h
/-- A store into a cell, in the tail. -/
theorem sch_store {i : Nat} {σ : List (Nat × Bool)} {o : Oper} {a : Act} {w : World} (hi : ops[i]? = some o) (hw : Region.wanted o (yielded ops a.tmps) = true) (ty : TypeId) (x y : Operand) (ho : o.op = .store ty x y) (hd : o.dst = none)
    (p : Addr) (v : Value) (hx : a.eval x = .pointer (some p)) (hy : a.eval y = v) (hr : (Instr.storeAt ty (.pointer (some p)) v).run P w = .ok () (w.setCell p v)) (hE : E w (w.setCell p v)) (h : wpSch P ops Q E σ a (w.setCell p v)) : wpSch P ops Q E ((i, false) :: σ) a w := by
  refine sch_eff hi hw fun K hK => ?_
  unfold Oper.wp execOp
  simp only [ho, Sem.run_bind, Sem.run_pure, Result.andThen_ok, hx, hy, hr]
  refine hK _ _ hE ?_
  rw [hd]; exact h
theorem schB_leaf {σB : List (Nat × Bool)} {a : Act} {w : World} (h : wpSch P ops Q anyW σB a w) : exitTo Q (contN P ops Q E σB .leaf) .normal a w := h
theorem schB_three {σB σ₁ σ₂ σ₃ : List (Nat × Bool)} {T₁ T₂ T₃ : Alt} {a : Act} {w : World} (h₁ : wpSch P ops (exitTo Q (contN P ops Q E σB T₁)) E σ₁ a w) (h₂ : wpSch P ops (exitTo Q (contN P ops Q E σB T₂)) E σ₂ a w) (h₃ : wpSch P ops (exitTo Q (contN P ops Q E σB T₃)) E σ₃ a w) : exitTo Q (contN P ops Q E σB (.three σ₁ T₁ σ₂ T₂ σ₃ T₃)) .normal a w := ⟨h₁, h₂, h₃⟩
theorem schB_two {σB σ₁ σ₂ : List (Nat × Bool)} {T₁ T₂ : Alt} {a : Act} {w : World} (h₁ : wpSch P ops (exitTo Q (contN P ops Q E σB T₁)) E σ₁ a w) (h₂ : wpSch P ops (exitTo Q (contN P ops Q E σB T₂)) E σ₂ a w) : exitTo Q (contN P ops Q E σB (.two σ₁ T₁ σ₂ T₂)) .normal a w := ⟨h₁, h₂⟩
end
end Go.Proofs.Ytoidlmhebnlnbaa
