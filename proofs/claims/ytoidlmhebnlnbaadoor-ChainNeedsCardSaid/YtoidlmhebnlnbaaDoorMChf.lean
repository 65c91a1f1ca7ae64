/- Walks and laws that the claim's last text stands on, several texts in one file: SchB, Cpy, CrcW, OctB, OctC, Rdr. Under the hypotheses that each theorem states. -/
import Derived.Laws.CopyOwn
import Derived.Deep.WholeRow
import Derived.Maps.AppendAt
import Derived.Test.YtoidlmhebnlnbaaDoorMCha
import Derived.Test.YtoidlmhebnlnbaaDoorMChb
import Derived.Test.YtoidlmhebnlnbaaDoorMChc
import Derived.Test.YtoidlmhebnlnbaaDoorMChd
import Derived.Test.YtoidlmhebnlnbaaDoorMChe
/- A region whose order is open: two operations may come up in either order (a tree of orders), and a tail of operations stands behind all others. -/
set_option linter.unusedVariables false
set_option linter.unusedSimpArgs false
namespace Go.Proofs.YtoidlmhebnlnbaaDoor

/-- What follows an order: nothing; or two orders, the one or the other. -/
inductive Alt where
  | leaf : Alt
  | two (σ₁ : List (Nat × Bool)) (T₁ : Alt) (σ₂ : List (Nat × Bool)) (T₂ : Alt) : Alt
  | three (σ₁ : List (Nat × Bool)) (T₁ : Alt) (σ₂ : List (Nat × Bool)) (T₂ : Alt) (σ₃ : List (Nat × Bool)) (T₃ : Alt) : Alt
section
variable {P : Program} {ops : Array Oper} {Q : Exit → Act → World → Prop} {md : Region.Mode} {E : World → World → Prop}

/-- Whatever may be done to the world. -/
def anyW (_ _ : World) : Prop := True
/-- Behind the others N. -/
def exitTo (Q : Exit → Act → World → Prop) (N : Act → World → Prop) : Exit → Act → World → Prop
  | .normal, a, w => N a w
  | e, a, w => Q e a w
def contN (P : Program) (ops : Array Oper) (Q : Exit → Act → World → Prop) (E : World → World → Prop) (σB : List (Nat × Bool)) : Alt → Act → World → Prop
  | .leaf => wpSch P ops Q anyW σB
  | .two σ₁ T₁ σ₂ T₂ => fun a w => wpSch P ops (exitTo Q (contN P ops Q E σB T₁)) E σ₁ a w ∧ wpSch P ops (exitTo Q (contN P ops Q E σB T₂)) E σ₂ a w
  | .three σ₁ T₁ σ₂ T₂ σ₃ T₃ => fun a w => wpSch P ops (exitTo Q (contN P ops Q E σB T₁)) E σ₁ a w ∧ wpSch P ops (exitTo Q (contN P ops Q E σB T₂)) E σ₂ a w ∧ wpSch P ops (exitTo Q (contN P ops Q E σB T₃)) E σ₃ a w
theorem Oper.wp_exitTo {o : Oper} {a : Act} {w : World} {K N : Act → World → Prop} (h : o.wp P a w K (exitTo Q N)) : o.wp P a w K Q := by
  unfold Oper.wp at *
  generalize (execOp a.eval o).run P w = r at *
  cases r with
  | ok n w' => cases n <;> exact h
  | halt x w' => cases x <;> exact h
theorem wpOp_exitTo {i : Nat} {a : Act} {w : World} {K N : Act → World → Prop} (h : wpOp P ops (exitTo Q N) i K a w) : wpOp P ops Q i K a w := by
  unfold wpOp at *
  split
  · simpa [*] using h
  · rename_i o ho
    simp only [ho] at h
    split
    · rename_i hw
      rw [if_pos hw] at h
      exact h.imp Oper.wp_exitTo id
    · rename_i hw
      rw [if_neg hw] at h
      exact h

def anyB (P : Program) (md : Region.Mode) (ops : Array Oper) (Q : Exit → Act → World → Prop) (E : World → World → Prop) (B : Nat → Bool) : Nat → Array Bool → Act → World → Prop
  | 0, listed, a, w => Region.ready md ops listed = [] ∧ Q .normal a w
  | fuel + 1, listed, a, w =>
    (Region.ready md ops listed = [] → Q .normal a w) ∧
    ∀ i ∈ Region.ready md ops listed, wpOp P ops Q i (fun a' w' => (B i = false → E w w') ∧ anyB P md ops Q E B fuel (listed.setIfInBounds i true) a' w') a w
theorem wpAny_of_anyB {B : Nat → Bool} : ∀ (fuel : Nat) (listed : Array Bool) (a : Act) (w : World), anyB P md ops Q E B fuel listed a w → wpAny P md ops Q fuel listed a w
  | 0, _, _, _, h => h
  | fuel + 1, _, _, _, h => ⟨h.1, fun i hi => wpOp_mono (fun a' w' h' => wpAny_of_anyB fuel _ a' w' h'.2) (h.2 i hi)⟩

theorem anyB_first {B : Nat → Bool} {i : Nat} {oi : Oper} {v : Value} (hrf : ∀ w, E w w) (htr : ∀ x y z, E x y → E y z → E x z) (hi : ops[i]? = some oi) (hsel : ∀ (j : Nat) (o : Oper) cs b, ops[j]? = some o → o.op ≠ .select cs b)
    (hQ : ∀ c a w, Q (.panic c) (a.put oi.dst v) w → Q (.panic c) a w) (hbe : ∀ t, B t = true → behind md ops t i = true) :
    ∀ (fuel : Nat) (listed : Array Bool) (a : Act) (w : World),
      (∀ j oj, ops[j]? = some oj → j ≠ i → listed.getD j true = false → (∀ e ∈ oj.after, Region.binds md e = true → e.on ≠ i) → oi.apart ops oj = true) →
      i ∈ Region.ready md ops listed → YieldsIf P ops (E w) oi v a →
      anyB P md ops Q E B fuel (listed.setIfInBounds i true) (a.put oi.dst v) w → anyB P md ops Q E B (fuel + 1) listed a w := by
  intro fuel
  induction fuel with
  | zero =>
    intro listed a w _ hr hy H
    refine ⟨fun h => (by rw [h] at hr; cases hr), fun j hj => ?_⟩
    by_cases hji : j = i
    · subst hji; exact hy.wpOp hi (hrf w) ⟨fun _ => hrf w, H⟩
    · have := ready_mono hj hji
      rw [H.1] at this
      cases this
  | succ fuel ih =>
    intro listed a w hfree hr hy H
    refine ⟨fun h => (by rw [h] at hr; cases hr), fun j hj => ?_⟩
    by_cases hji : j = i
    · subst hji; exact hy.wpOp hi (hrf w) ⟨fun _ => hrf w, H⟩
    · have h1 := H.2 j (ready_mono hj hji)
      obtain ⟨hjun, oj, hoj, hall⟩ := mem_ready.1 hj
      have hnot : ∀ e ∈ oj.after, Region.binds md e = true → e.on ≠ i := fun e he hb heq => by
        have h1 := hall e he hb
        have h0 := (mem_ready.1 hr).1
        rw [heq] at h1
        rcases Nat.lt_or_ge i listed.size with h' | h'
        · simp [h'] at h0 h1; rw [h0] at h1; cases h1
        · simp [Array.getElem?_eq_none h'] at h1
      have hjs : B j = false := by
        cases hB : B j with
        | false => rfl
        | true =>
          obtain ⟨x, hx1, hx2, hx3⟩ := behind_spec (hbe j hB) hoj
          exact absurd hx3 (hnot x hx1 hx2)
      have h2 := wpOp_putIf hoj (hfree j oj hoj hji hjun hnot) (fun cs b => hsel i oi cs b hi) (fun cs b => hsel j oj cs b hoj) hQ hy h1
      have hfree' : ∀ k ok, ops[k]? = some ok → k ≠ i → (listed.setIfInBounds j true).getD k true = false →
          (∀ e ∈ ok.after, Region.binds md e = true → e.on ≠ i) → oi.apart ops ok = true := fun k ok hk hki hun hno => by
        refine hfree k ok hk hki ?_ hno
        by_cases hjk : j = k
        · subst hjk; exact hjun
        · rw [getD_set_ne true hjk] at hun; exact hun
      refine wpOp_mono (fun a' w' h3 => ⟨fun _ => h3.2.1 hjs, ih (listed.setIfInBounds j true) a' w' hfree' (ready_mono hr (Ne.symm hji)) (yieldsE_mono h3.1 fun W hW => htr _ _ _ (h3.2.1 hjs) hW) ?_⟩) h2
      rw [Array.setIfInBounds_comm _ _ hji]
      exact h3.2.2

def inB (σB : List (Nat × Bool)) (t : Nat) : Bool := σB.any fun p => p.1 == t
def okB (md : Region.Mode) (ops : Array Oper) (σB : List (Nat × Bool)) : Nat → List (Nat × Bool) → Alt → Array Bool → Bool
  | n, [], .leaf, l => n == σB.length && okS md ops σB l && (List.range ops.size).all fun i => l.getD i true || inB σB i
  | n + 1, (i, b) :: σ, T, l => (if b then (Region.ready md ops l).contains i && Region.free md ops l i && σB.all fun p => behind md ops p.1 i else Region.ready md ops l == [i]) && okB md ops σB n σ T (l.setIfInBounds i true)
  | n + 1, [], .two ((i, false) :: σ₁) T₁ ((j, false) :: σ₂) T₂, l => Region.ready md ops l == [i, j] && okB md ops σB n σ₁ T₁ (l.setIfInBounds i true) && okB md ops σB n σ₂ T₂ (l.setIfInBounds j true)
  | n + 1, [], .three ((i, false) :: σ₁) T₁ ((j, false) :: σ₂) T₂ ((k, false) :: σ₃) T₃, l => Region.ready md ops l == [i, j, k] && okB md ops σB n σ₁ T₁ (l.setIfInBounds i true) && okB md ops σB n σ₂ T₂ (l.setIfInBounds j true) && okB md ops σB n σ₃ T₃ (l.setIfInBounds k true)
  | _, _, _, _ => false

theorem ready_lt {l : Array Bool} {i : Nat} (h : i ∈ Region.ready md ops l) : i < ops.size ∧ l.getD i true = false := by
  obtain ⟨h1, o, h2, -⟩ := mem_ready.1 h
  exact ⟨(Array.getElem?_eq_some_iff.1 h2).1, h1⟩
theorem anyB_of_anyE {B : Nat → Bool} : ∀ (fuel : Nat) (listed : Array Bool) (a : Act) (w : World), (∀ i, i < ops.size → listed.getD i true = false → B i = true) → anyE P md ops Q anyW fuel listed a w → anyB P md ops Q E B fuel listed a w
  | 0, _, _, _, _, h => h
  | fuel + 1, listed, _, _, hB, h => ⟨h.1, fun i hi => wpOp_mono (fun a' w' h' => ⟨fun hb => (by
      have := hB i (ready_lt hi).1 (ready_lt hi).2
      rw [this] at hb; cases hb), anyB_of_anyE fuel _ a' w' (fun j hj hun => by
        refine hB j hj ?_
        by_cases e : i = j
        · subst e; exact (ready_lt hi).2
        · rw [getD_set_ne true e] at hun; exact hun) h'.2⟩) (h.2 i hi)⟩
theorem anyB_of_sch (hrf : ∀ w, E w w) (htr : ∀ x y z, E x y → E y z → E x z) (hs : Region.noSelect ops = true) (hQ : ∀ c a d v w, Q (.panic c) (Act.put a d v) w → Q (.panic c) a w) (σB : List (Nat × Bool)) :
    ∀ (n : Nat) (σ : List (Nat × Bool)) (T : Alt) (listed : Array Bool) (a : Act) (w : World), okB md ops σB n σ T listed = true → wpSch P ops (exitTo Q (contN P ops Q E σB T)) E σ a w → anyB P md ops Q E (inB σB) n listed a w := by
  have leaf : ∀ (n : Nat) (listed : Array Bool) (a : Act) (w : World), (n == σB.length && okS md ops σB listed && (List.range ops.size).all fun i => listed.getD i true || inB σB i) = true → wpSch P ops Q anyW σB a w → anyB P md ops Q E (inB σB) n listed a w := by
    intro n listed a w hok h
    simp only [Bool.and_eq_true, beq_iff_eq, List.all_eq_true, List.mem_range, Bool.or_eq_true] at hok
    obtain ⟨⟨rfl, h2⟩, h3⟩ := hok
    refine anyB_of_anyE _ _ _ _ (fun i hi hun => (h3 i hi).resolve_left (by rw [hun]; simp)) (anyE_of_sch (E := anyW) (fun _ => trivial) (fun _ _ _ _ _ => trivial) hs hQ σB listed a w h2 h)
  intro n
  induction n with
  | zero =>
    intro σ T listed a w hok h
    cases σ with
    | nil =>
      cases T with
      | leaf => simp only [okB] at hok; exact leaf 0 listed a w hok h
      | two => simp [okB] at hok
      | three => simp [okB] at hok
    | cons x σ => simp [okB] at hok
  | succ n ih =>
    intro σ T listed a w hok h
    cases σ with
    | nil =>
      cases T with
      | leaf => simp only [okB] at hok; exact leaf (n + 1) listed a w hok h
      | two σ₁ T₁ σ₂ T₂ =>
        match σ₁, σ₂, hok, h with
        | (i, false) :: σ₁, (j, false) :: σ₂, hok, h =>
          simp only [okB, Bool.and_eq_true, beq_iff_eq] at hok
          obtain ⟨⟨hr, h1⟩, h2⟩ := hok
          simp only [wpSch, exitTo, contN, Bool.false_eq_true, if_false] at h
          refine ⟨fun h0 => (by rw [h0] at hr; cases hr), fun k hk => ?_⟩
          rw [hr] at hk
          simp only [List.mem_cons, List.not_mem_nil, or_false] at hk
          rcases hk with rfl | rfl
          · exact wpOp_mono (fun a' w' h' => ⟨fun _ => h'.1, ih _ _ _ _ _ h1 h'.2⟩) (wpOp_exitTo h.1)
          · exact wpOp_mono (fun a' w' h' => ⟨fun _ => h'.1, ih _ _ _ _ _ h2 h'.2⟩) (wpOp_exitTo h.2)
        | [], _, hok, _ => simp [okB] at hok
        | (_, true) :: _, _, hok, _ => simp [okB] at hok
        | (_, false) :: _, [], hok, _ => simp [okB] at hok
        | (_, false) :: _, (_, true) :: _, hok, _ => simp [okB] at hok
      | three σ₁ T₁ σ₂ T₂ σ₃ T₃ =>
        match σ₁, σ₂, σ₃, hok, h with
        | (i, false) :: σ₁, (j, false) :: σ₂, (l, false) :: σ₃, hok, h =>
          simp only [okB, Bool.and_eq_true, beq_iff_eq] at hok
          obtain ⟨⟨⟨hr, h1⟩, h2⟩, h3⟩ := hok
          simp only [wpSch, exitTo, contN, Bool.false_eq_true, if_false] at h
          refine ⟨fun h0 => (by rw [h0] at hr; cases hr), fun k hk => ?_⟩
          rw [hr] at hk
          simp only [List.mem_cons, List.not_mem_nil, or_false] at hk
          rcases hk with rfl | rfl | rfl
          · exact wpOp_mono (fun a' w' h' => ⟨fun _ => h'.1, ih _ _ _ _ _ h1 h'.2⟩) (wpOp_exitTo h.1)
          · exact wpOp_mono (fun a' w' h' => ⟨fun _ => h'.1, ih _ _ _ _ _ h2 h'.2⟩) (wpOp_exitTo h.2.1)
          · exact wpOp_mono (fun a' w' h' => ⟨fun _ => h'.1, ih _ _ _ _ _ h3 h'.2⟩) (wpOp_exitTo h.2.2)
        | [], _, _, hok, _ => simp [okB] at hok
        | (_, true) :: _, _, _, hok, _ => simp [okB] at hok
        | (_, false) :: _, [], _, hok, _ => simp [okB] at hok
        | (_, false) :: _, (_, true) :: _, _, hok, _ => simp [okB] at hok
        | (_, false) :: _, (_, false) :: _, [], hok, _ => simp [okB] at hok
        | (_, false) :: _, (_, false) :: _, (_, true) :: _, hok, _ => simp [okB] at hok
    | cons x σ =>
      obtain ⟨i, b⟩ := x
      have hok' : ((if b then (Region.ready md ops listed).contains i && Region.free md ops listed i && σB.all fun p => behind md ops p.1 i else Region.ready md ops listed == [i]) && okB md ops σB n σ T (listed.setIfInBounds i true)) = true := by
        cases T <;> simpa only [okB] using hok
      simp only [Bool.and_eq_true] at hok'
      obtain ⟨hok1, hok2⟩ := hok'
      cases b with
      | true =>
        simp only [if_true, Bool.and_eq_true, List.all_eq_true] at hok1
        simp only [wpSch, if_true] at h
        obtain ⟨o, v, hi, hy, h⟩ := h
        refine anyB_first hrf htr hi (Region.noSelect_spec hs) (fun c a w => hQ c a _ _ w) (fun t ht => ?_) n listed a w (Region.free_spec hi hok1.1.2) (by simpa using hok1.1.1) hy (ih _ _ _ _ _ hok2 h)
        unfold inB at ht
        simp only [List.any_eq_true, beq_iff_eq] at ht
        obtain ⟨p, hp, rfl⟩ := ht
        exact hok1.2 p hp
      | false =>
        have hr : Region.ready md ops listed = [i] := by simpa using hok1
        simp only [wpSch, Bool.false_eq_true, if_false] at h
        refine ⟨fun h0 => (by rw [h0] at hr; cases hr), fun j hj => ?_⟩
        rw [hr, List.mem_singleton] at hj
        subst hj
        exact wpOp_mono (fun a' w' h' => ⟨fun _ => h'.1, ih _ _ _ _ _ hok2 h'.2⟩) (wpOp_exitTo h)

/-- What holds in every world may be taken ahead of all. -/
theorem anyB_pure {B : Nat → Bool} {i : Nat} {oi : Oper} {v : Value} (hrf : ∀ w, E w w) (hi : ops[i]? = some oi) (hsel : ∀ (j : Nat) (o : Oper) cs b, ops[j]? = some o → o.op ≠ .select cs b)
    (hQ : ∀ c a w, Q (.panic c) (a.put oi.dst v) w → Q (.panic c) a w) :
    ∀ (fuel : Nat) (listed : Array Bool) (a : Act) (w : World),
      (∀ j oj, ops[j]? = some oj → j ≠ i → listed.getD j true = false → (∀ e ∈ oj.after, Region.binds md e = true → e.on ≠ i) → oi.apart ops oj = true) →
      i ∈ Region.ready md ops listed → YieldsIf P ops (fun _ => True) oi v a →
      anyB P md ops Q E B fuel (listed.setIfInBounds i true) (a.put oi.dst v) w → anyB P md ops Q E B (fuel + 1) listed a w := by
  intro fuel
  induction fuel with
  | zero =>
    intro listed a w _ hr hy H
    refine ⟨fun h => (by rw [h] at hr; cases hr), fun j hj => ?_⟩
    by_cases hji : j = i
    · subst hji; exact hy.wpOp hi trivial ⟨fun _ => hrf w, H⟩
    · have := ready_mono hj hji
      rw [H.1] at this
      cases this
  | succ fuel ih =>
    intro listed a w hfree hr hy H
    refine ⟨fun h => (by rw [h] at hr; cases hr), fun j hj => ?_⟩
    by_cases hji : j = i
    · subst hji; exact hy.wpOp hi trivial ⟨fun _ => hrf w, H⟩
    · have h1 := H.2 j (ready_mono hj hji)
      obtain ⟨hjun, oj, hoj, hall⟩ := mem_ready.1 hj
      have hnot : ∀ e ∈ oj.after, Region.binds md e = true → e.on ≠ i := fun e he hb heq => by
        have h1 := hall e he hb
        have h0 := (mem_ready.1 hr).1
        rw [heq] at h1
        rcases Nat.lt_or_ge i listed.size with h' | h'
        · simp [h'] at h0 h1; rw [h0] at h1; cases h1
        · simp [Array.getElem?_eq_none h'] at h1
      have h2 := wpOp_putIf hoj (hfree j oj hoj hji hjun hnot) (fun cs b => hsel i oi cs b hi) (fun cs b => hsel j oj cs b hoj) hQ hy h1
      have hfree' : ∀ k ok, ops[k]? = some ok → k ≠ i → (listed.setIfInBounds j true).getD k true = false →
          (∀ e ∈ ok.after, Region.binds md e = true → e.on ≠ i) → oi.apart ops ok = true := fun k ok hk hki hun hno => by
        refine hfree k ok hk hki ?_ hno
        by_cases hjk : j = k
        · subst hjk; exact hjun
        · rw [getD_set_ne true hjk] at hun; exact hun
      refine wpOp_mono (fun a' w' h3 => ⟨h3.2.1, ih (listed.setIfInBounds j true) a' w' hfree' (ready_mono hr (Ne.symm hji)) h3.1 ?_⟩) h2
      rw [Array.setIfInBounds_comm _ _ hji]
      exact h3.2.2
def okC (md : Region.Mode) (ops : Array Oper) (σB : List (Nat × Bool)) : Nat → List (Nat × Bool) → List (Nat × Bool) → Alt → Array Bool → Bool
  | n, [], σ, T, l => okB md ops σB n σ T l
  | n + 1, (i, true) :: σ₀, σ, T, l => (Region.ready md ops l).contains i && Region.free md ops l i && okC md ops σB n σ₀ σ T (l.setIfInBounds i true)
  | _, _, _, _, _ => false
theorem anyB_of_pre (hrf : ∀ w, E w w) (htr : ∀ x y z, E x y → E y z → E x z) (hs : Region.noSelect ops = true) (hQ : ∀ c a d v w, Q (.panic c) (Act.put a d v) w → Q (.panic c) a w) (σB σ : List (Nat × Bool)) (T : Alt) :
    ∀ (n : Nat) (σ₀ : List (Nat × Bool)) (listed : Array Bool) (a : Act) (w : World), okC md ops σB n σ₀ σ T listed = true → wpSch P ops (exitTo Q (wpSch P ops (exitTo Q (contN P ops Q E σB T)) E σ)) anyW σ₀ a w → anyB P md ops Q E (inB σB) n listed a w := by
  intro n σ₀
  induction σ₀ generalizing n with
  | nil =>
    intro listed a w hok h
    exact anyB_of_sch hrf htr hs hQ σB n σ T listed a w (by cases n <;> simpa only [okC] using hok) h
  | cons x σ₀ ih =>
    obtain ⟨i, b⟩ := x
    intro listed a w hok h
    cases n with
    | zero => cases b <;> simp [okC] at hok
    | succ n =>
      cases b with
      | false => simp [okC] at hok
      | true =>
        simp only [okC, Bool.and_eq_true] at hok
        simp only [wpSch, if_true] at h
        obtain ⟨o, v, hi, hy, h⟩ := h
        exact anyB_pure hrf hi (Region.noSelect_spec hs) (fun c a w => hQ c a _ _ w) n listed a w (Region.free_spec hi hok.1.2) (by simpa using hok.1.1) (yieldsE_mono hy (fun _ _ => trivial)) (ih n _ _ _ hok.2 h)

/-- THE BEGINNING: the region, first what looks at no memory (σ₀), then the order σ, then the tree T, then the tail σB. -/
theorem region_schB {id : Nat} {a : Act} {w : World} (σ₀ σ : List (Nat × Bool)) (T : Alt) (σB : List (Nat × Bool)) (hm : P.follows .mixedOrders = true) (hrf : ∀ w, E w w) (htr : ∀ x y z, E x y → E y z → E x z)
    (hQ : ∀ c a d v w, Q (.panic c) (Act.put a d v) w → Q (.panic c) a w) (hok : (Region.noSelect ops && okC .any ops σB ops.size σ₀ σ T (Array.replicate ops.size false)) = true)
    (h : ∀ ops', ops' = ops → wpSch P ops' (exitTo Q (wpSch P ops' (exitTo Q (contN P ops' Q E σB T)) E σ)) anyW σ₀ a w.drew) : (Code.region id ops true).wp P Q a w := by
  replace h := h ops rfl
  simp only [Bool.and_eq_true] at hok
  exact wp_region_any hm (wpAny_of_anyB (E := E) (B := inB σB) _ _ _ _ (anyB_of_pre hrf htr hok.1 hQ σB σ T _ _ _ _ _ hok.2 h))
theorem schB_pre {N : Act → World → Prop} {a : Act} {w : World} (h : N a w) : exitTo Q N .normal a w := h
/-- A store into a cell, in the tail. -/
theorem sch_store {i : Nat} {σ : List (Nat × Bool)} {o : Oper} {a : Act} {w : World} (hi : ops[i]? = some o) (hw : Region.wanted o (yielded ops a.tmps) = true) (ty : TypeId) (x y : Operand) (ho : o.op = .store ty x y) (hd : o.dst = none)
    (p : Addr) (v : Value) (hx : a.eval x = .pointer (some p)) (hy : a.eval y = v) (hr : (Instr.storeAt ty (.pointer (some p)) v).run P w = .ok () (w.setCell p v)) (hE : E w (w.setCell p v)) (h : wpSch P ops Q E σ a (w.setCell p v)) : wpSch P ops Q E ((i, false) :: σ) a w := by
  refine sch_eff hi hw fun K hK => ?_
  unfold Oper.wp execOp
  simp only [ho, Sem.run_bind, Sem.run_pure, Result.andThen_ok, hx, hy, hr]
  refine hK _ _ hE ?_
  rw [hd]; exact h
theorem schB_leaf {σB : List (Nat × Bool)} {a : Act} {w : World} (h : wpSch P ops Q anyW σB a w) : exitTo Q (contN P ops Q E σB .leaf) .normal a w := h
theorem schB_three {σB σ₁ σ₂ σ₃ : List (Nat × Bool)} {T₁ T₂ T₃ : Alt} {a : Act} {w : World} (h₁ : wpSch P ops (exitTo Q (contN P ops Q E σB T₁)) E σ₁ a w) (h₂ : wpSch P ops (exitTo Q (contN P ops Q E σB T₂)) E σ₂ a w) (h₃ : wpSch P ops (exitTo Q (contN P ops Q E σB T₃)) E σ₃ a w) : exitTo Q (contN P ops Q E σB (.three σ₁ T₁ σ₂ T₂ σ₃ T₃)) .normal a w := ⟨h₁, h₂, h₃⟩
theorem schB_two {σB σ₁ σ₂ : List (Nat × Bool)} {T₁ T₂ : Alt} {a : Act} {w : World} (h₁ : wpSch P ops (exitTo Q (contN P ops Q E σB T₁)) E σ₁ a w) (h₂ : wpSch P ops (exitTo Q (contN P ops Q E σB T₂)) E σ₂ a w) : exitTo Q (contN P ops Q E σB (.two σ₁ T₁ σ₂ T₂)) .normal a w := ⟨h₁, h₂⟩
end
end Go.Proofs.YtoidlmhebnlnbaaDoor
/- Bytes copied into a row of the call's own. -/
set_option linter.unusedVariables false
set_option linter.unusedSimpArgs false
namespace Go.Proofs.YtoidlmhebnlnbaaDoor
open Go.ChangeShapes Go.WideShapes Go.ChangeAt Go.RowKit

theorem cp_len {b xs : List Byte} {off : Nat} (h : off + xs.length ≤ b.length) : (splice b off xs).length = b.length := length_splice b off xs h
theorem cp_take {α : Type} (L cs : List α) (off n : Nat) (h : off + cs.length ≤ n) (hL : off ≤ L.length) : (L.take off ++ cs ++ L.drop (off + cs.length)).take n = (L.take n).take off ++ (cs ++ (L.take n).drop (off + cs.length)) := by
  have h1 : (L.take off).length = off := by rw [List.length_take]; omega
  rw [List.append_assoc, List.take_append, List.take_append, h1, List.take_of_length_le (by omega : (L.take off).length ≤ n), List.take_of_length_le (by omega : cs.length ≤ n - off), List.take_take, Nat.min_eq_left (by omega), List.drop_take]
  congr 3
  omega
theorem cp_vbs (b xs : List Byte) (off : Nat) : vbs (splice b off xs) = (vbs b).take off ++ (vbs xs ++ (vbs b).drop (off + xs.length)) := by
  unfold splice
  rw [vbs_append, vbs_append, vbs_take, vbs_drop]
theorem TB.cp (g : Nat) (w : World) (cs : Array Value) : TB g w (w.setRow g cs) := ⟨rfl, rfl, rfl, by simp, fun k _ hk => setRow_other w g k cs (fun e => hk (by simp [e]))⟩
theorem cp_run {w : World} {base gb m c : Nat} {b : List Byte} (ho : Own w base (.slice (some ⟨gb, 0, none⟩) m c) b) (off d e : Nat) (A : Option Addr) (ca : Nat) (xs : List Byte) (hr : Rd w A xs) (hx : xs.length ≤ d) (hfit : off + xs.length ≤ b.length) :
    ∃ w', (∀ ty, (Builtin.copy_ #[27, 27] ty #[.slice (some ⟨gb, off, none⟩) d e, .slice A xs.length ca]).run Tryd.prog w = .ok (goInt xs.length) w') ∧ Own w' base (.slice (some ⟨gb, 0, none⟩) m c) (splice b off xs) ∧ TB gb w w' := by
  obtain ⟨i, hi, _, hsz, _⟩ := info_parts info_u8
  have hsz1 : (Tryd.prog.info? 5).map (·.size) = some 1 := by rw [hi]; simp [hsz]
  by_cases h0 : xs.length = 0
  · obtain rfl : xs = [] := List.eq_nil_of_length_eq_zero h0
    refine ⟨w, fun ty => run_copy_none (P := Tryd.prog) w _ _ ty _ _ _ _ _ _ _ Tryd.underlying27 hsz1 (by simp), ?_, TB.refl _ _⟩
    have : splice b off [] = b := by simp [splice]
    rw [this]; exact ho
  · obtain ⟨b0, o0, rfl, hb0, hcell⟩ := hr.form (by omega)
    have hO := ho
    unfold Own OwnV at ho
    rcases ho with ⟨l1, ⟨l2, -⟩ | ⟨g, cap, cur, l3, l4, l5, l6, l7, l8, l9⟩⟩
    · cases l2
    · simp only [Value.slice.injEq, Option.some.injEq, Addr.mk.injEq] at l3
      obtain ⟨⟨rfl, -, -⟩, hm, rfl⟩ := l3
      rw [vbs_length] at l1 l6 l9 hm
      rw [Nat.mul_one] at l1 l8 l9
      have hcl : b.length ≤ cur.size := by omega
      have hrun := fun ty => run_copy_row (P := Tryd.prog) w 27 27 ty 5 gb off d e ⟨b0, o0, none⟩ xs.length ca cur 5 (vbs xs) Tryd.underlying27 hsz1 l5 (by rw [vbs_length]; exact (Nat.min_eq_left hx).symm) (fun j v hj => by
        have hjl : j < xs.length := by
          have := (List.getElem?_eq_some_iff.1 hj).1
          rwa [vbs_length] at this
        have : (⟨b0, o0, none⟩ : Addr).add j = ⟨b0, o0 + j, none⟩ := by unfold Addr.add; split <;> simp_all
        rw [this, hcell j hjl]
        rw [vbs_get? xs j hjl] at hj
        exact hj) (by rw [vbs_length]; omega) (vbs_oneCell xs)
      simp only [vbs_length] at hrun
      refine ⟨_, hrun, ?_, TB.cp _ _ _⟩
      have hrow := setRow_heap w gb cur (cur.toList.take off ++ vbs xs ++ cur.toList.drop (off + xs.length)).toArray _ _ l5
      unfold Own OwnV
      rw [vbs_length, cp_len hfit]
      refine ⟨by rw [vbs_length, cp_len hfit]; omega, .inr ⟨gb, c, _, by rw [hm], l4, hrow, by omega, l7, ?_, ?_⟩⟩
      · simp only [List.size_toArray, List.length_append, List.length_take, List.length_drop, vbs_length, Array.length_toList]
        omega
      · have hst := cp_take cur.toList (vbs xs) off b.length (by rw [vbs_length]; exact hfit) (by rw [Array.length_toList]; omega)
        rw [vbs_length] at hst
        rw [Nat.mul_one]
        rw [hst, l9, cp_vbs]
/-- 'copy(x, y)' at the operation; as a step of a region that draws. -/
theorem cp_list {P : Program} {ops : Array Oper} {rest : List Oper} {o : Oper} {a : Act} {w : World} {Q : Exit → Act → World → Prop} (hgd : o.guard = none) (x y : Operand) (t t' : TypeId)
    (ho : o.op = .call { callee := .builtin .copy, args := #[x, y], argTypes := #[t, t'] }) (v u : Value) (hx : a.eval x = v) (hy : a.eval y = u) {v' : Value} {w' : World}
    (hr : ∀ ty, (Builtin.copy_ #[t, t'] ty #[v, u]).run P w = .ok v' w') (h : wpList P ops Q rest (a.put o.dst v') w') : wpList P ops Q (o :: rest) a w :=
  wpList_plain hgd fun _ hK => by
    unfold Oper.wp execOp
    simp only [ho, resolve, invoke, builtin, Sem.run_bind, Sem.run_pure, Result.andThen_ok, List.map_toArray, List.map_cons, List.map_nil, hx, hy, hr]
    exact hK _ _ h
theorem cp_sch {P : Program} {ops : Array Oper} {Q : Exit → Act → World → Prop} {E : World → World → Prop} {i : Nat} {σ : List (Nat × Bool)} {o : Oper} {a : Act} {w w' : World} (hi : ops[i]? = some o) (hw : Region.wanted o (yielded ops a.tmps) = true)
    (x y : Operand) (t t' : TypeId) (ho : o.op = .call { callee := .builtin .copy, args := #[x, y], argTypes := #[t, t'] }) (v u : Value) (hx : a.eval x = v) (hy : a.eval y = u) {v' : Value}
    (hr : ∀ ty, (Builtin.copy_ #[t, t'] ty #[v, u]).run P w = .ok v' w') (hE : E w w') (h : wpSch P ops Q E σ (a.put o.dst v') w') : wpSch P ops Q E ((i, false) :: σ) a w :=
  sch_eff hi hw fun K hK => by
    unfold Oper.wp execOp
    simp only [ho, resolve, invoke, builtin, Sem.run_bind, Sem.run_pure, Result.andThen_ok, List.map_toArray, List.map_cons, List.map_nil, hx, hy, hr]
    exact hK _ _ hE h
end Go.Proofs.YtoidlmhebnlnbaaDoor
/- The walks through package crc: each function once. -/
set_option linter.unusedVariables false
set_option linter.unusedSimpArgs false
namespace Go.Proofs.YtoidlmhebnlnbaaDoor
open Go.ChangeShapes Go.WideShapes Go.ChangeAt Go.RowKit
attribute [local go_sem] nb_beq nb_bne nb_beq1 nb_mod8 nb_shr_8 nb_shr_1 bits_xor32 bits_and32 bits_xor8 bits_xor32l bits_and32l bits_not32 BitVec.setWidth_eq nb_nonneg nb_lt8

set_option maxRecDepth 100000 in
set_option maxHeartbeats 400000 in
theorem crc_On (T : Array Value) (t : Byte → BitVec 32) (s : BitVec 32) (xs : List Byte) (A : Option Addr) (c : Nat) (w : World) (hc : xs.length ≤ c) (hm : c ≤ maxLen) (hr : Rd w A xs) (hT : IsTab T t) :
    Calls Tryd.prog 84 #[.agg T, .int .u32 (nb s), .slice A xs.length c] w fun e w' => e = .returned (.int .u32 (nb (crcOn t s xs))) ∧ w.alloc (.cells T 123) = w' := by
  have HT := Lib.hid hT
  have HR := Lib.hid hr
  clear hT hr
  unfold maxLen at hm
  go_enter Tryd.func84, Tryd.ntmps84
  go_wp2
  go_loop [7, 9, 14] (fun st _ i => ∃ k : Nat, k ≤ xs.length ∧ i = .int .i64 k ∧ st = .int .u32 (nb ((xs.take k).foldl (crcStep t) (~~~ s)))) (fun _ _ i => xs.length - (intOf i).toNat)
  case atStart => exact ⟨0, by omega, rfl, by simp⟩
  case round =>
    obtain ⟨k, hk, rfl, rfl⟩ := hrel
    by_cases hlt : k < xs.length
    · obtain ⟨b, o, rfl, hb, hcell⟩ := HR.out.form (by omega)
      have hck := hcell k hlt
      unfold vb at hck
      clear hcell
      have hsn : List.foldl (crcStep t) (~~~s) (List.take (k + 1) xs) = crcStep t (List.foldl (crcStep t) (~~~s) (List.take k xs)) xs[k] := by
        rw [List.take_succ_eq_append_getElem hlt, List.foldl_append]; rfl
      have HS := Lib.hid hsn
      clear hsn
      generalize hst : List.foldl (crcStep t) (~~~s) (List.take k xs) = st at *
      have HST := Lib.hid hst
      clear hst
      generalize hx : xs[k] = x at *
      have HX := Lib.hid hx
      clear hx
      have ht := HT.out.2 (st.setWidth 8 ^^^ x)
      go_wp2
      go_round
      case rel => exact ⟨k + 1, by omega, by go_num, by rw [HS.out]; rfl⟩
      case measure => simp [intOf]; omega
    · go_wp2
      go_ret
      have : k = xs.length := by omega
      subst this
      exact ⟨by simp [crcOn], rfl⟩

def zeroTab : Array Value := Array.replicate 256 (.int .u32 0)
theorem zeroTab_size : zeroTab.size = 256 := by simp [zeroTab]
theorem zero_tab : (Tryd.prog.info? 123).map (fun i => (i.zero, i.size)) = some (some (.agg zeroTab), 256) := by kernel_rfl
/-- The first k cells hold their words. -/
def TabTo (C : Array Value) (k : Nat) : Prop := C.size = 256 ∧ (∀ v ∈ C.toList, v.oneCell' = true) ∧ ∀ j, j < k → C[j]? = some (.int .u32 (nb (crcWord j)))
theorem TabTo.zero : TabTo zeroTab 0 := ⟨zeroTab_size, by
  intro v hv
  simp only [zeroTab, Array.toList_replicate, List.mem_replicate] at hv
  rw [hv.2]; rfl, fun j hj => by omega⟩
theorem TabTo.set {C : Array Value} {k : Nat} (h : TabTo C k) (hk : k < 256) : TabTo (C.setIfInBounds k (.int .u32 (nb (crcWord k)))) (k + 1) := by
  obtain ⟨h1, h2, h3⟩ := h
  refine ⟨by simp [h1], ?_, fun j hj => ?_⟩
  · intro v hv
    rw [Array.toList_setIfInBounds] at hv
    rcases List.mem_or_eq_of_mem_set hv with hv | rfl
    · exact h2 v hv
    · rfl
  · rw [Array.getElem?_setIfInBounds]
    by_cases e : k = j
    · subst e; simp [h1, hk]
    · rw [if_neg e]; exact h3 j (by omega)
theorem TabTo.at {C : Array Value} {k : Nat} (h : TabTo C k) (j : Nat) (hj : j < 256) : ∃ v, C[j]? = some v := ⟨C[j]'(by rw [h.1]; exact hj), by simp [h.1, hj]⟩
theorem TabTo.tab {C : Array Value} (h : TabTo C 256) : IsTab C crcT := ⟨h.1, fun b => by
  have hb := b.isLt
  rw [show (nb b).toNat = b.toNat from by simp [nb]]
  exact h.2.2 _ hb⟩
theorem crcBits_succ (n : Nat) (x : BitVec 32) : crcBits (n + 1) x = crcBit (crcBits n x) := rfl
theorem ofNat32_nb (k : Nat) (h : k < 256) : nb (BitVec.ofNat 32 k) = (k : Int) := nb_ofNat k (by omega)

set_option maxRecDepth 100000 in
set_option maxHeartbeats 400000 in
theorem crc_Table (w : World) :
    Calls Tryd.prog 77 #[] w fun e w' => ∃ T, e = .returned (.agg T) ∧ TabTo T 256 ∧ Below w.heap.size w w' := by
  have hz := (zero_of_info zero_tab).1
  go_enter Tryd.func77, Tryd.ntmps77
  go_wp2
  clear hz
  go_loopw [1, 2, 3, 4] (fun _ _ _ i wr => ∃ k C, k ≤ 256 ∧ i = .int .i64 (k : Nat) ∧ wr = w.alloc (.cells C 123) ∧ TabTo C k) (fun _ _ _ i _ => 256 - (intOf i).toNat)
  case atStart => exact ⟨0, zeroTab, by omega, rfl, rfl, TabTo.zero⟩
  case round =>
    obtain ⟨k, C, hk, rfl, rfl, hC⟩ := hrel
    by_cases hlt : k < 256
    · obtain ⟨v, hv⟩ := hC.at k hlt
      have hset := hC.set hlt
      have HC := Lib.hid hset
      clear hC hset
      go_wp2
      go_loop [2, 3, 9] (fun x _ j => ∃ n : Nat, n ≤ 8 ∧ j = .int .i64 n ∧ x = .int .u32 (nb (crcBits n (BitVec.ofNat 32 k)))) (fun _ _ j => 8 - (intOf j).toNat)
      case atStart => exact ⟨0, by omega, rfl, by rw [show crcBits 0 (BitVec.ofNat 32 k) = BitVec.ofNat 32 k from rfl, ofNat32_nb k hlt]⟩
      case round =>
        obtain ⟨n, hn, rfl, rfl⟩ := hrel
        by_cases hln : n < 8
        · have hsucc := crcBits_succ n (BitVec.ofNat 32 k)
          have HS := Lib.hid hsucc
          clear hsucc
          generalize crcBits n (BitVec.ofNat 32 k) = x at *
          by_cases hb : x &&& 1#32 = 1#32
          · have hb1 : (x &&& 1#32 == 1#32) = true := by rw [hb]; rfl
            have HE : crcBit x = (x >>> 1) ^^^ 0x82f63b78#32 := by unfold crcBit; rw [if_pos hb]
            have HE := Lib.hid HE
            clear hb
            go_wp2
            go_round
            case rel => exact ⟨n + 1, by omega, by go_num, by rw [HS.out, HE.out]⟩
            case measure => simp [intOf]; omega
          · have hb1 : (x &&& 1#32 == 1#32) = false := beq_eq_false_iff_ne.2 hb
            have HE : crcBit x = x >>> 1 := by unfold crcBit; rw [if_neg hb]
            have HE := Lib.hid HE
            clear hb
            go_wp2
            go_round
            case rel => exact ⟨n + 1, by omega, by go_num, by rw [HS.out, HE.out]⟩
            case measure => simp [intOf]; omega
        · obtain rfl : n = 8 := by omega
          go_wp2
          go_roundw
          case rel => exact ⟨k + 1, _, by omega, by go_num, rfl, HC.out⟩
          case measure => simp [intOf]; omega
    · obtain rfl : k = 256 := by omega
      have hsz : (Tryd.prog.info? 123).map (·.size) = some C.size := by rw [hC.1]; exact (zero_of_info zero_tab).2
      have hl := run_loadAt_new (P := Tryd.prog) w 123 C 256 41 Tryd.underlying123 hsz
      have hs := run_storeAt_new (P := Tryd.prog) w 123 C C hsz rfl (by rw [← Array.all_toList]; exact List.all_eq_true.2 hC.2.1)
      have HC := Lib.hid hC
      have HZ := Lib.hid hsz
      clear hC hsz
      go_wp2_with (first | (refine wpList_load_by rfl _ _ rfl _ hl ?_) | (refine wpList_store_by rfl _ _ _ rfl _ hs ?_))
      exact bodyPost_ret (v := .agg C) (results_cell_row Tryd.results77 _ _ w.heap.size 123 C (0, 0) _ rfl (heap_alloc_last w _) Tryd.underlying123 rfl HZ.out) rfl ⟨C, rfl, HC.out, (Below.refl _ _).alloc (Nat.le_refl _) _⟩

/-- The sum of several, one behind the other. -/
def crcOns (t : Byte → BitVec 32) (ls : List (List Byte)) : BitVec 32 := ls.foldl (crcOn t) 0#32

theorem size_tab {T : Array Value} {t : Byte → BitVec 32} (h : IsTab T t) : (Tryd.prog.info? 123).map (·.size) = some T.size := by rw [h.1]; exact (zero_of_info zero_tab).2

set_option maxRecDepth 100000 in
set_option maxHeartbeats 1000000 in
theorem crc_on (T : Array Value) (t : Byte → BitVec 32) (ls : List (List Byte)) (A : Option Addr) (c : Nat) (w : World) (hc : ls.length ≤ c) (hm : c ≤ maxLen) (hr : RdL w A ls) (hT : IsTab T t) :
    Calls Tryd.prog 76 #[.agg T, .slice A ls.length c] w fun e w' => e = .returned (.int .u32 (nb (crcOns t ls))) ∧ Below w.heap.size w w' := by
  have HT := Lib.hid hT
  have HR := Lib.hid hr
  clear hT hr
  unfold maxLen at hm
  go_enter Tryd.func76, Tryd.ntmps76
  go_wp2
  go_loopw [4, 6, 9] (fun st _ i wr => ∃ k : Nat, k ≤ ls.length ∧ i = .int .i64 k ∧ st = .int .u32 (nb ((ls.take k).foldl (crcOn t) 0#32)) ∧ Hid (Below (w.heap.size + 1) (w.alloc (.cells T 123)) wr)) (fun _ _ i _ => ls.length - (intOf i).toNat)
  case atStart => exact ⟨0, by omega, rfl, by simp [nb_zero], Below.refl _ _⟩
  case round =>
    obtain ⟨k, hk, rfl, rfl, HB⟩ := hrel
    by_cases hlt : k < ls.length
    · have hbw : Below w.heap.size w wr := ((Below.refl _ w).alloc (Nat.le_refl _) _).trans (HB.out.mono (by omega))
      obtain ⟨b, o, A', c', rfl, hcell, hc', hm', hrd⟩ := (HR.out.below hbw) k hlt
      have HRD := Lib.hid hrd
      have HBW := Lib.hid hbw
      have hrow : wr.heap[w.heap.size]? = some (.cells T 123 (0, 0)) := (HB.out.block _ (by omega)).trans (heap_alloc_last _ _)
      clear hrd hbw
      have hsn : List.foldl (crcOn t) 0#32 (List.take (k + 1) ls) = crcOn t (List.foldl (crcOn t) 0#32 (List.take k ls)) ls[k] := by
        rw [List.take_succ_eq_append_getElem hlt, List.foldl_append]; rfl
      have HS := Lib.hid hsn
      clear hsn
      generalize List.foldl (crcOn t) 0#32 (List.take k ls) = st at *
      generalize ls[k] = x at *
      have HW := Lib.hid hrow
      clear hrow
      go_wp2_with (first | (refine wpList_load_row rfl _ _ rfl w.heap.size rfl _ T (0, 0) _ HW.out Tryd.underlying123 rfl (size_tab HT.out) ?_) | (go_at_call 84; refine (crc_On T t _ x _ _ _ hc' hm' HRD.out HT.out).mono ?_; rintro e w' ⟨rfl, rfl⟩))
      go_roundw
      case rel => exact ⟨k + 1, by omega, by go_num, by rw [HS.out], HB.out.alloc (by have := HB.out.size; simp at this; omega) _⟩
      case measure => simp [intOf]; omega
    · go_wp2
      go_ret
      have : k = ls.length := by omega
      subst this
      exact ⟨by simp [crcOns], ((Below.refl _ w).alloc (Nat.le_refl _) _).trans (HB.out.mono (by omega))⟩

set_option maxRecDepth 100000 in
set_option maxHeartbeats 400000 in
theorem crc_Parts (ls : List (List Byte)) (A : Option Addr) (c : Nat) (w : World) (hc : ls.length ≤ c) (hm : c ≤ maxLen) (hr : RdL w A ls) :
    Calls Tryd.prog 58 #[.slice A ls.length c] w fun e w' => e = .returned (.int .u32 (nb (crcOns crcT ls))) ∧ Below w.heap.size w w' := by
  have HR := Lib.hid hr
  clear hr
  go_enter Tryd.func58, Tryd.ntmps58
  go_wp2_with fail
  refine (crc_Table _).mono ?_
  rintro e w1 ⟨T, rfl, hT, hb⟩
  have HT := Lib.hid hT
  have HB := Lib.hid hb
  clear hT hb
  go_wp2_with fail
  refine (crc_on T crcT ls A c _ hc hm (HR.out.below HB.out) HT.out.tab).mono ?_
  rintro e w2 ⟨rfl, hb2⟩
  have HB2 := Lib.hid hb2
  clear hb2
  go_wp2
  go_ret
  exact ⟨rfl, below_trans HB.out HB.out.size HB2.out⟩

end Go.Proofs.YtoidlmhebnlnbaaDoor
/- The walks through Number, Word, Block, Size, of octet and of the document's answer. -/
set_option linter.unusedVariables false
set_option linter.unusedSimpArgs false
namespace Go.Proofs.YtoidlmhebnlnbaaDoor
open Go.ChangeShapes Go.WideShapes Go.ChangeAt Go.RowKit
attribute [local go_sem] nb_mod8 bits_or8l nb_shr_7 nb_shr_8 nb_nonneg nb_lt64

theorem ge128 {n : BitVec 64} (h : 128#64 ≤ n) : (128 : Int) ≤ nb n := by
  unfold nb; have : 128 ≤ n.toNat := by simpa [BitVec.le_def] using h
  omega
theorem lt128 {n : BitVec 64} (h : ¬ 128#64 ≤ n) : nb n < 128 := by
  unfold nb; have : ¬ 128 ≤ n.toNat := by simpa [BitVec.le_def] using h
  omega
theorem shr7_lt {n : BitVec 64} (h : 128#64 ≤ n) : (n >>> 7).toNat < n.toNat := by
  have : 128 ≤ n.toNat := by simpa [BitVec.le_def] using h
  rw [BitVec.toNat_ushiftRight, Nat.shiftRight_eq_div_pow]; omega

theorem seven8 : ∀ x : BitVec 8, (x ||| 128#8).toNat = 128 + x.toNat % 128 := by decide
theorem seven_byte (n : BitVec 64) : 128 + nb n % 128 = nb (n.setWidth 8 ||| 128#8) := by
  have h := seven8 (n.setWidth 8)
  rw [BitVec.toNat_setWidth] at h
  unfold nb
  rw [h]
  omega

/-! ### Word -/
set_option maxRecDepth 100000 in
set_option maxHeartbeats 400000 in
theorem ref_Word (xs : List Byte) (A : Option Addr) (n c : Nat) (m : BitVec 64) (z : Int) (w : World) (hn : n = xs.length) (hm : xs.length ≤ 100000000000000) (hr : Rd w A xs) (hz : z = 2 ∨ z = 4 ∨ z = 8) :
    Calls Tryd.prog 31 #[.slice A n c, .int .u64 (nb m), .int .i64 z] w fun e w' => ∃ v, e = .returned v ∧ Own w' w.heap.size v (xs ++ owordZ z m) ∧ Below w.heap.size w w' := by
  subst hn
  have HR := Lib.hid hr
  clear hr
  obtain ⟨q, rfl, hq, hqq⟩ : ∃ q : Nat, z = q ∧ owordZ z m = oword q m ∧ (q = 2 ∨ q = 4 ∨ q = 8) := by
    rcases hz with rfl | rfl | rfl
    · exact ⟨2, rfl, by simp [owordZ], by omega⟩
    · exact ⟨4, rfl, by simp [owordZ], by omega⟩
    · exact ⟨8, rfl, by simp [owordZ], by omega⟩
  rw [hq]
  have hq8 : q ≤ 8 := by omega
  have hb : (((q : Int) != 2) = false ∨ (((q : Int) != 2) = true ∧ ((q : Int) != 4) = false) ∨ (((q : Int) != 2) = true ∧ ((q : Int) != 4) = true ∧ ((q : Int) != 8) = false)) := by
    rcases hqq with rfl | rfl | rfl <;> simp
  clear hq hz hqq
  rcases hb with h1 | ⟨h1, h2⟩ | ⟨h1, h2, h3⟩
  all_goals
    go_enter Tryd.func31, Tryd.ntmps31
    go_wp2_with (at_builtin; refine wpList_append_bytes rfl _ _ rfl w.heap.size _ [] (OwnV.lit _ w [] (by simp)) rfl A c xs rfl (HR.out.alloc _) (by simp; omega) (by simp) ?_; intro v' w1 ho hg _; have HO0 := Lib.hid ho; have HG0 := Lib.hid hg; clear ho hg)
    have HB0 := Lib.hid (show FB w w1 from ((FB.refl w).alloc _).grown HG0.out (by simp [Value.ownBlock]))
    clear HG0
    go_loopw [7, 8] (fun v i wr => ∃ k : Nat, k ≤ q ∧ i = .int .i64 k ∧ Hid (Own wr w.heap.size v (xs ++ oword k m)) ∧ Hid (FB w wr)) (fun _ i _ => q - (intOf i).toNat)
    case atStart => exact ⟨0, by omega, rfl, Lib.hid (by have := HO0.out; rw [List.nil_append] at this; simpa [oword] using this), HB0.out⟩
    case round =>
      obtain ⟨k, hk, rfl, HO, HF⟩ := hrel
      by_cases hlt : k < q
      · have HS := Lib.hid (oword_succ k m)
        have hl := oword_len k m
        have HL := Lib.hid hl
        have hsh : (nb m / 2 ^ (8 * k)) % 256 = nb ((m >>> (8 * k)).setWidth 8) := by
          rw [← nb_mod8]; congr 1
          have := nb_shr m (8 * k)
          rw [← this]; simp
        clear hl
        go_wp2_with (at_builtin; refine wpList_append_bytes rfl _ _ rfl w.heap.size _ (xs ++ oword k m) (HO.out.alloc _) rfl (some ⟨wr.heap.size, 0, none⟩) 1 [(m >>> (8 * k)).setWidth 8] rfl (RdV.lit wr (vbs [(m >>> (8 * k)).setWidth 8]) _) (by simp [HL.out]; omega) (Nat.le_trans HF.out.le (by simp)) ?_; intro v' w2 ho hg _; have HO2 := Lib.hid ho; have HG := Lib.hid hg; clear ho hg)
        go_roundw
        case rel => exact ⟨k + 1, by omega, by go_num, by rw [HS.out, ← List.append_assoc]; exact HO2.out, (HF.out.alloc _).grown HG.out (Own.bnd HO.out)⟩
        case measure => simp [intOf]; omega
      · obtain rfl : k = q := by omega
        go_wp2
        go_ret
        exact ⟨_, rfl, HO.out, HF.out⟩
end Go.Proofs.YtoidlmhebnlnbaaDoor
/- The walks through Word, Block, Size, of octet and of the document's answer. -/
set_option linter.unusedVariables false
set_option linter.unusedSimpArgs false
namespace Go.Proofs.YtoidlmhebnlnbaaDoor
open Go.ChangeShapes Go.WideShapes Go.ChangeAt Go.RowKit
attribute [local go_sem] nb_mod8 bits_or8l nb_shr_7 nb_shr_8 nb_nonneg nb_lt64

theorem owordZ_none {z : Int} (m : BitVec 64) (h : ¬ (z = 2 ∨ z = 4 ∨ z = 8)) : owordZ z m = [] := by
  unfold owordZ; rw [if_neg (by omega), if_neg (by omega), if_neg (by omega)]
theorem owordZ_len (z : Int) (m : BitVec 64) : (owordZ z m).length ≤ 8 := by
  unfold owordZ
  split
  · rw [oword_len]; omega
  · split
    · rw [oword_len]; omega
    · split
      · rw [oword_len]; omega
      · simp
set_option maxRecDepth 100000 in
set_option maxHeartbeats 400000 in
theorem ref_WordZ (xs : List Byte) (A : Option Addr) (n c : Nat) (m : BitVec 64) (z : Int) (w : World) (hn : n = xs.length) (hm : xs.length ≤ 100000000000000) (hr : Rd w A xs) :
    Calls Tryd.prog 31 #[.slice A n c, .int .u64 (nb m), .int .i64 z] w fun e w' => ∃ v, e = .returned v ∧ Own w' w.heap.size v (xs ++ owordZ z m) ∧ Below w.heap.size w w' := by
  by_cases hz : z = 2 ∨ z = 4 ∨ z = 8
  · exact ref_Word xs A n c m z w hn hm hr hz
  subst hn
  have HR := Lib.hid hr
  have HN := Lib.hid (owordZ_none m hz)
  have h1 : (z != 2) = true := by simp; omega
  have h2 : (z != 4) = true := by simp; omega
  have h3 : (z != 8) = true := by simp; omega
  clear hr hz
  go_enter Tryd.func31, Tryd.ntmps31
  go_wp2_with (at_builtin; refine wpList_append_bytes rfl _ _ rfl w.heap.size _ [] (OwnV.lit _ w [] (by simp)) rfl A c xs rfl (HR.out.alloc _) (by simp; omega) (by simp) ?_; intro v' w1 ho hg _; have HO0 := Lib.hid ho; have HG0 := Lib.hid hg; clear ho hg)
  go_ret
  refine ⟨_, rfl, ?_, ((FB.refl w).alloc _).grown HG0.out (by simp [Value.ownBlock])⟩
  rw [HN.out, List.append_nil]
  exact HO0.out

set_option maxRecDepth 100000 in
set_option maxHeartbeats 400000 in
theorem oct_Word (xs : List Byte) (A : Option Addr) (n c : Nat) (m : BitVec 64) (z : Int) (w : World) (hn : n = xs.length) (hc : xs.length ≤ c) (hcm : c ≤ maxLen) (hm : xs.length ≤ 100000000000000) (hr : Rd w A xs) :
    Calls Tryd.prog 24 #[.slice A n c, .int .u64 (nb m), .int .i64 z] w fun e w' => ∃ v, e = .returned v ∧ Own w' w.heap.size v (xs ++ owordZ z m) ∧ Below w.heap.size w w' := by
  subst hn
  have HR := Lib.hid hr
  clear hr
  by_cases hz : z = 2 ∨ z = 4 ∨ z = 8
  · obtain ⟨q, rfl, hq, hqq⟩ : ∃ q : Nat, z = q ∧ owordZ z m = oword q m ∧ (q = 2 ∨ q = 4 ∨ q = 8) := by
      rcases hz with rfl | rfl | rfl
      · exact ⟨2, rfl, by simp [owordZ], by omega⟩
      · exact ⟨4, rfl, by simp [owordZ], by omega⟩
      · exact ⟨8, rfl, by simp [owordZ], by omega⟩
    rw [hq]
    have hq8 : q ≤ 8 := by omega
    have hb : (((q : Int) == 2) = true ∨ (((q : Int) == 2) = false ∧ ((q : Int) == 4) = true) ∨ (((q : Int) == 2) = false ∧ ((q : Int) == 4) = false ∧ ((q : Int) == 8) = true)) := by
      rcases hqq with rfl | rfl | rfl <;> simp
    clear hq hz hqq
    rcases hb with h1 | ⟨h1, h2⟩ | ⟨h1, h2, h3⟩
    all_goals
      go_enter Tryd.func24, Tryd.ntmps24
      go_wp2
      go_loopw [7, 1, 16] (fun v s i wr => ∃ k : Nat, k ≤ q ∧ i = .int .i64 k ∧ s = .int .u64 (nb (m >>> (8 * k))) ∧ Hid (Own wr w.heap.size v (oword k m)) ∧ Hid (FB w wr)) (fun _ _ i _ => q - (intOf i).toNat)
      case atStart => exact ⟨0, by omega, rfl, by simp, Own.nil _ _, FB.refl _⟩
      case round =>
        obtain ⟨k, hk, rfl, rfl, HO, HF⟩ := hrel
        by_cases hlt : k < q
        · have HS := Lib.hid (oword_succ k m)
          have hl := oword_len k m
          have HL := Lib.hid hl
          have HSH := Lib.hid (show m >>> (8 * (k + 1)) = m >>> (8 * k) >>> 8 by rw [show 8 * (k + 1) = 8 * k + 8 by omega, BitVec.shiftRight_add])
          clear hl
          generalize m >>> (8 * k) = mk at *
          go_wp2_with (at_builtin; refine wpList_append_bytes rfl _ _ rfl w.heap.size _ (oword k m) (HO.out.alloc _) rfl (some ⟨wr.heap.size, 0, none⟩) 1 [mk.setWidth 8] rfl (RdV.lit wr (vbs [mk.setWidth 8]) _) (by simp [HL.out]; omega) (Nat.le_trans HF.out.le (by simp)) ?_; intro v' w2 ho hg _; have HO2 := Lib.hid ho; have HG := Lib.hid hg; clear ho hg)
          go_roundw
          case rel => exact ⟨k + 1, by omega, by go_num, by rw [HSH.out], by rw [HS.out]; exact HO2.out, (HF.out.alloc _).grown HG.out (Own.bnd HO.out)⟩
          case measure => simp [intOf]; omega
        · obtain rfl : k = q := by omega
          obtain ⟨Aw, cw, rfl, hw1, hw2, hw3, -⟩ := Own.form HO.out
          have HL := Lib.hid (oword_len k m)
          have HF1 := Lib.hid (HF.out.rd HR.out)
          have hlist : RdL (wr.alloc (.cells #[.slice A xs.length c, .slice Aw (oword k m).length cw] 27)) (some ⟨wr.heap.size, 0, none⟩) [xs, oword k m] := by
            refine RdL.lit (vs := [.slice A xs.length c, .slice Aw (oword k m).length cw]) rfl (fun i hi => ?_)
            have hi2 : i = 0 ∨ i = 1 := by simp at hi; omega
            rcases hi2 with rfl | rfl
            · exact ⟨A, c, rfl, hc, hcm, HF1.out⟩
            · exact ⟨Aw, cw, rfl, hw1, hw2, hw3⟩
          have HLIST := Lib.hid hlist
          clear hw1 hw2 hw3 hlist
          go_wp2_with fail
          refine (sl_Concat [xs, oword k m] (some ⟨wr.heap.size, 0, none⟩) 2 2 _ rfl (by simp) (by simp [maxLen]) HLIST.out (by simp [HL.out]; omega)).mono ?_
          rintro e w2 ⟨v2, rfl, ho, hb⟩
          have HO2 := Lib.hid (Own.lower ho (Nat.le_trans HF.out.le (by simp)))
          have HF2 := Lib.hid ((HF.out.alloc _).call hb)
          clear ho hb
          go_wp2
          go_ret
          refine ⟨_, rfl, ?_, HF2.out⟩
          have ho := HO2.out
          simp only [List.flatten_cons, List.flatten_nil, List.append_nil] at ho
          exact ho
  · have HN := Lib.hid (owordZ_none m hz)
    have h1 : (z == 2) = false := by simp; omega
    have h2 : (z == 4) = false := by simp; omega
    have h3 : (z == 8) = false := by simp; omega
    clear hz
    go_enter Tryd.func24, Tryd.ntmps24
    go_wp2_with fail
    refine (sl_Clone xs A _ c _ rfl (by omega) HR.out).mono ?_
    rintro e w1 ⟨A', c', rfl, ho, hb⟩
    have HO0 := Lib.hid ho
    have HB0 := Lib.hid hb
    clear ho hb
    go_wp2
    go_ret
    refine ⟨_, rfl, ?_, HB0.out⟩
    rw [HN.out, List.append_nil]
    exact HO0.out

/-! ### Block, Size -/
end Go.Proofs.YtoidlmhebnlnbaaDoor
/- A reader: its block; the walks through New, made, ready, fail, Left, Err, End. -/
set_option linter.unusedVariables false
set_option linter.unusedSimpArgs false
namespace Go.Proofs.YtoidlmhebnlnbaaDoor
open Go.ChangeShapes Go.WideShapes Go.ChangeAt Go.RowKit

/-- A reader at block g: its bytes, which lie from block 'base' on and before g; its place; its error. -/
structure Rdr (w : World) (base g : Nat) (xs : List Byte) (k : Nat) (e : Int) : Prop where
  row : ∃ A c, w.heap[g]? = some (.cells #[.slice A xs.length c, .int .i64 k, .int .i64 e, .bool true] 113 (0, 0)) ∧ xs.length ≤ c ∧ c ≤ maxLen ∧ Rd w A xs ∧ ∀ ad, A = some ad → base ≤ ad.block ∧ ad.block < g
  le : k ≤ xs.length
  bg : base ≤ g
  er : -9223372036854775808 ≤ e ∧ e ≤ 9223372036854775807
theorem Rdr.lt {w : World} {base g : Nat} {xs : List Byte} {k : Nat} {e : Int} (h : Rdr w base g xs k e) : g < w.heap.size := by
  obtain ⟨A, c, h1, _⟩ := h.row
  exact (Array.getElem?_eq_some_iff.1 h1).1
/-- Another block is written. -/
theorem Rdr.tb {w w' : World} {base g g' : Nat} {xs : List Byte} {k : Nat} {e : Int} (h : Rdr w base g xs k e) (hk : TB g' w w') (hg : g' < base ∨ g < g') : Rdr w' base g xs k e := by
  obtain ⟨A, c, h1, h2, h3, h4, h5⟩ := h.row
  have hbg := h.bg
  refine ⟨⟨A, c, (hk.out.block _ h.lt (by simp; omega)).trans h1, h2, h3, hk.rd h4 (fun ad e => by have := h5 ad e; omega), h5⟩, h.le, h.bg, h.er⟩
theorem Rdr.fb {w w' : World} {base g : Nat} {xs : List Byte} {k : Nat} {e : Int} (h : Rdr w base g xs k e) (hk : FB w w') : Rdr w' base g xs k e := by
  obtain ⟨A, c, h1, h2, h3, h4, h5⟩ := h.row
  exact ⟨⟨A, c, (hk.block _ h.lt).trans h1, h2, h3, hk.rd h4, h5⟩, h.le, h.bg, h.er⟩
/-- The place, or the error, is written. -/
theorem Rdr.put {w : World} {base g : Nat} {xs : List Byte} {k : Nat} {e : Int} (h : Rdr w base g xs k e) (k' : Nat) (hk : k' ≤ xs.length) : Rdr (w.setCell ⟨g, 1, none⟩ (.int .i64 k')) base g xs k' e := by
  obtain ⟨A, c, h1, h2, h3, h4, h5⟩ := h.row
  refine ⟨⟨A, c, ?_, h2, h3, (TB.set w 1 _).rd h4 (fun ad e => by have := h5 ad e; omega), h5⟩, hk, h.bg, h.er⟩
  rw [heap_setCell_same w g 1 _ _ _ h1]
  rfl
theorem Rdr.fail {w : World} {base g : Nat} {xs : List Byte} {k : Nat} {e : Int} (h : Rdr w base g xs k e) (e' : Int) (he : -9223372036854775808 ≤ e' ∧ e' ≤ 9223372036854775807) : Rdr (w.setCell ⟨g, 2, none⟩ (.int .i64 e')) base g xs k e' := by
  obtain ⟨A, c, h1, h2, h3, h4, h5⟩ := h.row
  refine ⟨⟨A, c, ?_, h2, h3, (TB.set w 2 _).rd h4 (fun ad e => by have := h5 ad e; omega), h5⟩, h.le, h.bg, he⟩
  rw [heap_setCell_same w g 2 _ _ _ h1]
  rfl
/-- What the walk is given of a reader: its four cells, which may be written. -/
theorem Rdr.cells {w : World} {base g : Nat} {xs : List Byte} {k : Nat} {e : Int} (h : Rdr w base g xs k e) : ∃ A c,
    w.cell? ⟨g, 0, none⟩ = some (.slice A xs.length c) ∧ w.cell? ⟨g, 1, none⟩ = some (.int .i64 k) ∧ w.cell? ⟨g, 2, none⟩ = some (.int .i64 e) ∧ w.cell? ⟨g, 3, none⟩ = some (.bool true) ∧
    w.frozen? ⟨g, 1, none⟩ = false ∧ w.frozen? ⟨g, 2, none⟩ = false ∧ xs.length ≤ c ∧ c ≤ maxLen ∧ Hid (Rd w A xs) ∧ Hid (∀ ad, A = some ad → base ≤ ad.block ∧ ad.block < g) := by
  obtain ⟨A, c, h1, h2, h3, h4, h5⟩ := h.row
  exact ⟨A, c, by rw [cell_of_row _ _ _ _ _ _ h1]; rfl, by rw [cell_of_row _ _ _ _ _ _ h1]; rfl, by rw [cell_of_row _ _ _ _ _ _ h1]; rfl, by rw [cell_of_row _ _ _ _ _ _ h1]; rfl, frozen_row _ h1 _, frozen_row _ h1 _, h2, h3, h4, h5⟩

set_option maxRecDepth 100000 in
set_option maxHeartbeats 400000 in
theorem oct_New (xs : List Byte) (A : Option Addr) (n c : Nat) (w : World) (hn : n = xs.length) (hm : xs.length ≤ 140737488355328) (hr : Rd w A xs) :
    Calls Tryd.prog 48 #[.slice A n c] w fun e w' => ∃ g, e = .returned (.pointer (some ⟨g, 0, none⟩)) ∧ Rdr w' w.heap.size g xs 0 0 ∧ Below w.heap.size w w' := by
  subst hn
  have HR := Lib.hid hr
  clear hr
  go_enter Tryd.func48, Tryd.ntmps48
  go_wp2_with fail
  refine (sl_Clone xs A _ c _ rfl hm HR.out).mono ?_
  rintro e w1 ⟨A', c', rfl, ho, hb⟩
  have HO0 := Lib.hid ho
  have HB0 := Lib.hid hb
  clear ho hb
  go_wp2
  go_ret
  obtain ⟨h1, h2, h3, -, h5⟩ := Own.info HO0.out
  refine ⟨w1.heap.size, rfl, ⟨⟨A', c', heap_alloc_new _ _, h1, h2, h3.alloc _, h5⟩, by omega, FB.le HB0.out, by omega⟩, FB.alloc HB0.out _⟩

set_option maxRecDepth 100000 in
set_option maxHeartbeats 400000 in
theorem oct_made {xs : List Byte} {base g k : Nat} {er : Int} {w : World} (h : Rdr w base g xs k er) :
    Calls Tryd.prog 70 #[.pointer (some ⟨g, 0, none⟩)] w fun e w' => e = .returned (.bool true) ∧ w = w' := by
  obtain ⟨A, c, h0, h1, h2, h3, f1, f2, hc, hm, HR, HB⟩ := h.cells
  clear h
  go_enter Tryd.func70, Tryd.ntmps70
  go_wp2
  go_ret
  exact ⟨rfl, rfl⟩
set_option maxRecDepth 100000 in
set_option maxHeartbeats 400000 in
theorem oct_ready {xs : List Byte} {base g k : Nat} {er : Int} {w : World} (h : Rdr w base g xs k er) :
    Calls Tryd.prog 61 #[.pointer (some ⟨g, 0, none⟩)] w fun e w' => e = .returned (.bool (er == 0)) ∧ w = w' := by
  obtain ⟨A, c, h0, h1, h2, h3, f1, f2, hc, hm, HR, HB⟩ := h.cells
  have H := Lib.hid h
  clear h
  go_enter Tryd.func61, Tryd.ntmps61
  go_wp2_with fail
  refine (oct_made H.out).mono ?_
  rintro e w1 ⟨rfl, rfl⟩
  go_wp2
  go_ret
  exact ⟨rfl, rfl⟩
set_option maxRecDepth 100000 in
set_option maxHeartbeats 400000 in
theorem oct_fail {xs : List Byte} {base g k : Nat} {er : Int} {w : World} (h : Rdr w base g xs k er) (e' : Int) :
    Calls Tryd.prog 62 #[.pointer (some ⟨g, 0, none⟩), .int .i64 e'] w fun e w' => e = .returned (.tuple #[]) ∧ w.setCell ⟨g, 2, none⟩ (.int .i64 e') = w' := by
  obtain ⟨A, c, h0, h1, h2, h3, f1, f2, hc, hm, HR, HB⟩ := h.cells
  clear h
  go_enter Tryd.func62, Tryd.ntmps62
  go_wp2
  exact bodyPost_end (results_none rfl _ _ _) rfl ⟨rfl, rfl⟩
end Go.Proofs.YtoidlmhebnlnbaaDoor
