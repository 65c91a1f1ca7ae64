/- Walks and laws that the claim's last text stands on, several texts in one file: SchT, ChI. Under the hypotheses that each theorem states. -/
import Derived.OrdersIn
import Derived.Test.YtoidlmhebnlnbaaDoorMCha
import Derived.Test.YtoidlmhebnlnbaaDoorMChb
import Derived.Test.YtoidlmhebnlnbaaDoorMChc
import Derived.Test.YtoidlmhebnlnbaaDoorMChd
import Derived.Test.YtoidlmhebnlnbaaDoorMChe
import Derived.Test.YtoidlmhebnlnbaaDoorMChf
import Derived.Test.YtoidlmhebnlnbaaDoorMChg
import Derived.Test.YtoidlmhebnlnbaaDoorMChh
import Derived.Test.YtoidlmhebnlnbaaDoorMChi
import Derived.Test.YtoidlmhebnlnbaaDoorMChj
import Derived.Test.YtoidlmhebnlnbaaDoorMChk
import Derived.Test.YtoidlmhebnlnbaaDoorMChl
import Derived.Test.YtoidlmhebnlnbaaDoorMChm
import Derived.Test.YtoidlmhebnlnbaaDoorMChn
import Derived.Test.YtoidlmhebnlnbaaDoorMCho
import Derived.Test.YtoidlmhebnlnbaaDoorMChp
/- A region whose order is open, as in SchB, where what stands behind another operation may do so over a third one; and such a region within a fence (a round of a range over a function). -/
set_option linter.unusedVariables false
set_option linter.unusedSimpArgs false
namespace Go.Proofs.YtoidlmhebnlnbaaDoor

section
variable {P : Program} {ops : Array Oper} {Q : Exit → Act → World → Prop} {md : Region.Mode} {E : World → World → Prop}

/-- With each operation that is through those are through that it stands behind. -/
def Closed (md : Region.Mode) (ops : Array Oper) (listed : Array Bool) : Prop := ∀ (k : Nat) (o : Oper), ops[k]? = some o → listed.getD k false = true → ∀ e ∈ o.after, Region.binds md e = true → listed.getD e.on false = true
theorem getD_set_mono {l : Array Bool} {j k : Nat} (h : l.getD k false = true) : (l.setIfInBounds j true).getD k false = true := by
  simp only [Array.getD_eq_getD_getElem?] at h ⊢
  rw [Array.getElem?_setIfInBounds]
  by_cases e : j = k
  · subst e
    by_cases hl : j < l.size
    · simp [hl]
    · rw [Array.getElem?_eq_none (by omega)] at h; simp at h
  · rw [if_neg e]; exact h
theorem Closed.set {listed : Array Bool} {j : Nat} (h : Closed md ops listed) (hj : j ∈ Region.ready md ops listed) : Closed md ops (listed.setIfInBounds j true) := by
  intro k o ho hk e he hb
  by_cases hkj : k = j
  · subst hkj
    obtain ⟨-, o', ho', hall⟩ := mem_ready.1 hj
    rw [ho] at ho'; cases ho'
    exact getD_set_mono (hall e he hb)
  · refine getD_set_mono (h k o ho ?_ e he hb)
    simp only [Array.getD_eq_getD_getElem?] at hk ⊢
    rw [Array.getElem?_setIfInBounds_ne (fun e => hkj e.symm)] at hk
    exact hk
theorem Closed.none (n : Nat) : Closed md ops (Array.replicate n false) := by
  intro k o ho hk
  simp only [Array.getD_eq_getD_getElem?, Array.getElem?_replicate] at hk
  split at hk <;> simp at hk
/-- Does t stand behind i, over others too? -/
def behindN (md : Region.Mode) (ops : Array Oper) : Nat → Nat → Nat → Bool
  | 0, _, _ => false
  | k + 1, t, i => match ops[t]? with | some o => o.after.toList.any fun e => Region.binds md e && (e.on == i || behindN md ops k e.on i) | none => false
def behindT (md : Region.Mode) (ops : Array Oper) (t i : Nat) : Bool := behindN md ops 6 t i
theorem behindN_spec {listed : Array Bool} {i : Nat} (hcl : Closed md ops listed) : ∀ (k t : Nat), (∀ o, ops[t]? = some o → ∀ e ∈ o.after, Region.binds md e = true → listed.getD e.on false = true) → behindN md ops k t i = true → listed.getD i false = true
  | 0, _, _, h => by cases h
  | k + 1, t, hall, h => by
    rw [behindN] at h
    cases ho : ops[t]? with
    | none => rw [ho] at h; cases h
    | some o =>
      rw [ho] at h
      simp only [List.any_eq_true, Bool.and_eq_true, Bool.or_eq_true, beq_iff_eq] at h
      obtain ⟨e, he, hb, h2⟩ := h
      have he' : e ∈ o.after := by simpa using he
      have hl := hall o ho e he' hb
      rcases h2 with rfl | h2
      · exact hl
      · exact behindN_spec hcl k e.on (fun ok hk e2 he2 hb2 => hcl _ ok hk hl e2 he2 hb2) h2
theorem behindT_spec {listed : Array Bool} {t i : Nat} (hcl : Closed md ops listed) (hr : t ∈ Region.ready md ops listed) (h : behindT md ops t i = true) : listed.getD i false = true := by
  obtain ⟨-, o, ho, hall⟩ := mem_ready.1 hr
  exact behindN_spec hcl 6 t (fun o' ho' => by rw [ho] at ho'; cases ho'; exact hall) h
theorem getD_both {l : Array Bool} {i : Nat} (h : l.getD i false = true) (h2 : l.getD i true = false) : False := by
  simp only [Array.getD_eq_getD_getElem?] at h h2
  cases hx : l[i]? with
  | none => rw [hx] at h; cases h
  | some b => rw [hx] at h h2; simp at h h2; rw [h] at h2; cases h2

theorem anyT_first {B : Nat → Bool} {i : Nat} {oi : Oper} {v : Value} (hrf : ∀ w, E w w) (htr : ∀ x y z, E x y → E y z → E x z) (hi : ops[i]? = some oi) (hsel : ∀ (j : Nat) (o : Oper) cs b, ops[j]? = some o → o.op ≠ .select cs b)
    (hQ : ∀ c a w, Q (.panic c) (a.put oi.dst v) w → Q (.panic c) a w) (hbe : ∀ t, B t = true → behindT md ops t i = true) :
    ∀ (fuel : Nat) (listed : Array Bool) (a : Act) (w : World), Closed md ops listed →
      (∀ j oj, ops[j]? = some oj → j ≠ i → listed.getD j true = false → (∀ e ∈ oj.after, Region.binds md e = true → e.on ≠ i) → oi.apart ops oj = true) →
      i ∈ Region.ready md ops listed → YieldsIf P ops (E w) oi v a →
      anyB P md ops Q E B fuel (listed.setIfInBounds i true) (a.put oi.dst v) w → anyB P md ops Q E B (fuel + 1) listed a w := by
  intro fuel
  induction fuel with
  | zero =>
    intro listed a w hcl _ hr hy H
    refine ⟨fun h => (by rw [h] at hr; cases hr), fun j hj => ?_⟩
    by_cases hji : j = i
    · subst hji; exact hy.wpOp hi (hrf w) ⟨fun _ => hrf w, H⟩
    · have := ready_mono hj hji
      rw [H.1] at this
      cases this
  | succ fuel ih =>
    intro listed a w hcl hfree hr hy H
    refine ⟨fun h => (by rw [h] at hr; cases hr), fun j hj => ?_⟩
    by_cases hji : j = i
    · subst hji; exact hy.wpOp hi (hrf w) ⟨fun _ => hrf w, H⟩
    · have h1 := H.2 j (ready_mono hj hji)
      obtain ⟨hjun, oj, hoj, hall⟩ := mem_ready.1 hj
      have hnot : ∀ e ∈ oj.after, Region.binds md e = true → e.on ≠ i := fun e he hb heq => by
        have h1 := hall e he hb
        have h0 := (mem_ready.1 hr).1
        rw [heq] at h1
        rcases Nat.lt_or_ge i listed.size with h' | h'
        · simp [h'] at h0 h1; rw [h0] at h1; cases h1
        · simp [Array.getElem?_eq_none h'] at h1
      have hjs : B j = false := by
        cases hB : B j with
        | false => rfl
        | true =>
          exact absurd (behindT_spec hcl hj (hbe j hB)) (by have := (mem_ready.1 hr).1; intro h2; have h3 := getD_both h2 this; exact h3)
      have h2 := wpOp_putIf hoj (hfree j oj hoj hji hjun hnot) (fun cs b => hsel i oi cs b hi) (fun cs b => hsel j oj cs b hoj) hQ hy h1
      have hfree' : ∀ k ok, ops[k]? = some ok → k ≠ i → (listed.setIfInBounds j true).getD k true = false →
          (∀ e ∈ ok.after, Region.binds md e = true → e.on ≠ i) → oi.apart ops ok = true := fun k ok hk hki hun hno => by
        refine hfree k ok hk hki ?_ hno
        by_cases hjk : j = k
        · subst hjk; exact hjun
        · rw [getD_set_ne true hjk] at hun; exact hun
      refine wpOp_mono (fun a' w' h3 => ⟨fun _ => h3.2.1 hjs, ih (listed.setIfInBounds j true) a' w' (hcl.set hj) hfree' (ready_mono hr (Ne.symm hji)) (yieldsE_mono h3.1 fun W hW => htr _ _ _ (h3.2.1 hjs) hW) ?_⟩) h2
      rw [Array.setIfInBounds_comm _ _ hji]
      exact h3.2.2

def okT (md : Region.Mode) (ops : Array Oper) (σB : List (Nat × Bool)) : Nat → List (Nat × Bool) → Alt → Array Bool → Bool
  | n, [], .leaf, l => n == σB.length && okS md ops σB l && (List.range ops.size).all fun i => l.getD i true || inB σB i
  | n + 1, (i, b) :: σ, T, l => (if b then (Region.ready md ops l).contains i && Region.free md ops l i && σB.all fun p => behindT md ops p.1 i else Region.ready md ops l == [i]) && okT md ops σB n σ T (l.setIfInBounds i true)
  | n + 1, [], .two ((i, false) :: σ₁) T₁ ((j, false) :: σ₂) T₂, l => Region.ready md ops l == [i, j] && okT md ops σB n σ₁ T₁ (l.setIfInBounds i true) && okT md ops σB n σ₂ T₂ (l.setIfInBounds j true)
  | n + 1, [], .three ((i, false) :: σ₁) T₁ ((j, false) :: σ₂) T₂ ((k, false) :: σ₃) T₃, l => Region.ready md ops l == [i, j, k] && okT md ops σB n σ₁ T₁ (l.setIfInBounds i true) && okT md ops σB n σ₂ T₂ (l.setIfInBounds j true) && okT md ops σB n σ₃ T₃ (l.setIfInBounds k true)
  | _, _, _, _ => false

theorem anyT_of_sch (hrf : ∀ w, E w w) (htr : ∀ x y z, E x y → E y z → E x z) (hs : Region.noSelect ops = true) (hQ : ∀ c a d v w, Q (.panic c) (Act.put a d v) w → Q (.panic c) a w) (σB : List (Nat × Bool)) :
    ∀ (n : Nat) (σ : List (Nat × Bool)) (T : Alt) (listed : Array Bool) (a : Act) (w : World), Closed md ops listed → okT md ops σB n σ T listed = true → wpSch P ops (exitTo Q (contN P ops Q E σB T)) E σ a w → anyB P md ops Q E (inB σB) n listed a w := by
  have leaf : ∀ (n : Nat) (listed : Array Bool) (a : Act) (w : World), (n == σB.length && okS md ops σB listed && (List.range ops.size).all fun i => listed.getD i true || inB σB i) = true → wpSch P ops Q anyW σB a w → anyB P md ops Q E (inB σB) n listed a w := by
    intro n listed a w hok h
    simp only [Bool.and_eq_true, beq_iff_eq, List.all_eq_true, List.mem_range, Bool.or_eq_true] at hok
    obtain ⟨⟨rfl, h2⟩, h3⟩ := hok
    refine anyB_of_anyE _ _ _ _ (fun i hi hun => (h3 i hi).resolve_left (by rw [hun]; simp)) (anyE_of_sch (E := anyW) (fun _ => trivial) (fun _ _ _ _ _ => trivial) hs hQ σB listed a w h2 h)
  intro n
  induction n with
  | zero =>
    intro σ T listed a w hcl hok h
    cases σ with
    | nil =>
      cases T with
      | leaf => simp only [okT] at hok; exact leaf 0 listed a w hok h
      | two => simp [okT] at hok
      | three => simp [okT] at hok
    | cons x σ => simp [okT] at hok
  | succ n ih =>
    intro σ T listed a w hcl hok h
    cases σ with
    | nil =>
      cases T with
      | leaf => simp only [okT] at hok; exact leaf (n + 1) listed a w hok h
      | two σ₁ T₁ σ₂ T₂ =>
        match σ₁, σ₂, hok, h with
        | (i, false) :: σ₁, (j, false) :: σ₂, hok, h =>
          simp only [okT, Bool.and_eq_true, beq_iff_eq] at hok
          obtain ⟨⟨hr, h1⟩, h2⟩ := hok
          simp only [wpSch, exitTo, contN, Bool.false_eq_true, if_false] at h
          refine ⟨fun h0 => (by rw [h0] at hr; cases hr), fun k hk => ?_⟩
          rw [hr] at hk
          simp only [List.mem_cons, List.not_mem_nil, or_false] at hk
          rcases hk with rfl | rfl
          · exact wpOp_mono (fun a' w' h' => ⟨fun _ => h'.1, ih _ _ _ _ _ (hcl.set (by rw [hr]; simp)) h1 h'.2⟩) (wpOp_exitTo h.1)
          · exact wpOp_mono (fun a' w' h' => ⟨fun _ => h'.1, ih _ _ _ _ _ (hcl.set (by rw [hr]; simp)) h2 h'.2⟩) (wpOp_exitTo h.2)
        | [], _, hok, _ => simp [okT] at hok
        | (_, true) :: _, _, hok, _ => simp [okT] at hok
        | (_, false) :: _, [], hok, _ => simp [okT] at hok
        | (_, false) :: _, (_, true) :: _, hok, _ => simp [okT] at hok
      | three σ₁ T₁ σ₂ T₂ σ₃ T₃ =>
        match σ₁, σ₂, σ₃, hok, h with
        | (i, false) :: σ₁, (j, false) :: σ₂, (l, false) :: σ₃, hok, h =>
          simp only [okT, Bool.and_eq_true, beq_iff_eq] at hok
          obtain ⟨⟨⟨hr, h1⟩, h2⟩, h3⟩ := hok
          simp only [wpSch, exitTo, contN, Bool.false_eq_true, if_false] at h
          refine ⟨fun h0 => (by rw [h0] at hr; cases hr), fun k hk => ?_⟩
          rw [hr] at hk
          simp only [List.mem_cons, List.not_mem_nil, or_false] at hk
          rcases hk with rfl | rfl | rfl
          · exact wpOp_mono (fun a' w' h' => ⟨fun _ => h'.1, ih _ _ _ _ _ (hcl.set (by rw [hr]; simp)) h1 h'.2⟩) (wpOp_exitTo h.1)
          · exact wpOp_mono (fun a' w' h' => ⟨fun _ => h'.1, ih _ _ _ _ _ (hcl.set (by rw [hr]; simp)) h2 h'.2⟩) (wpOp_exitTo h.2.1)
          · exact wpOp_mono (fun a' w' h' => ⟨fun _ => h'.1, ih _ _ _ _ _ (hcl.set (by rw [hr]; simp)) h3 h'.2⟩) (wpOp_exitTo h.2.2)
        | [], _, _, hok, _ => simp [okT] at hok
        | (_, true) :: _, _, _, hok, _ => simp [okT] at hok
        | (_, false) :: _, [], _, hok, _ => simp [okT] at hok
        | (_, false) :: _, (_, true) :: _, _, hok, _ => simp [okT] at hok
        | (_, false) :: _, (_, false) :: _, [], hok, _ => simp [okT] at hok
        | (_, false) :: _, (_, false) :: _, (_, true) :: _, hok, _ => simp [okT] at hok
    | cons x σ =>
      obtain ⟨i, b⟩ := x
      have hok' : ((if b then (Region.ready md ops listed).contains i && Region.free md ops listed i && σB.all fun p => behindT md ops p.1 i else Region.ready md ops listed == [i]) && okT md ops σB n σ T (listed.setIfInBounds i true)) = true := by
        cases T <;> simpa only [okT] using hok
      simp only [Bool.and_eq_true] at hok'
      obtain ⟨hok1, hok2⟩ := hok'
      cases b with
      | true =>
        simp only [if_true, Bool.and_eq_true, List.all_eq_true] at hok1
        simp only [wpSch, if_true] at h
        obtain ⟨o, v, hi, hy, h⟩ := h
        refine anyT_first hrf htr hi (Region.noSelect_spec hs) (fun c a w => hQ c a _ _ w) (fun t ht => ?_) n listed a w hcl (Region.free_spec hi hok1.1.2) (by simpa using hok1.1.1) hy (ih _ _ _ _ _ (hcl.set (by simpa using hok1.1.1)) hok2 h)
        unfold inB at ht
        simp only [List.any_eq_true, beq_iff_eq] at ht
        obtain ⟨p, hp, rfl⟩ := ht
        exact hok1.2 p hp
      | false =>
        have hr : Region.ready md ops listed = [i] := by simpa using hok1
        simp only [wpSch, Bool.false_eq_true, if_false] at h
        refine ⟨fun h0 => (by rw [h0] at hr; cases hr), fun j hj => ?_⟩
        rw [hr, List.mem_singleton] at hj
        subst hj
        exact wpOp_mono (fun a' w' h' => ⟨fun _ => h'.1, ih _ _ _ _ _ (hcl.set (by rw [hr]; simp)) hok2 h'.2⟩) (wpOp_exitTo h)

/-- THE BEGINNING: the order σ, then the tree T, then the tail σB: any order of the region. -/
theorem any_schT {a : Act} {w : World} (σ : List (Nat × Bool)) (T : Alt) (σB : List (Nat × Bool)) (hrf : ∀ w, E w w) (htr : ∀ x y z, E x y → E y z → E x z)
    (hQ : ∀ c a d v w, Q (.panic c) (Act.put a d v) w → Q (.panic c) a w) (hok : (Region.noSelect ops && okT .any ops σB ops.size σ T (Array.replicate ops.size false)) = true)
    (h : wpSch P ops (exitTo Q (contN P ops Q E σB T)) E σ a w) : wpAny P .any ops Q ops.size (Array.replicate ops.size false) a w := by
  simp only [Bool.and_eq_true] at hok
  exact wpAny_of_anyB (E := E) (B := inB σB) _ _ _ _ (anyT_of_sch hrf htr hok.1 hQ σB _ σ T _ _ _ (Closed.none _) hok.2 h)
theorem region_schT {id : Nat} {a : Act} {w : World} (σ : List (Nat × Bool)) (T : Alt) (σB : List (Nat × Bool)) (hm : P.follows .mixedOrders = true) (hrf : ∀ w, E w w) (htr : ∀ x y z, E x y → E y z → E x z)
    (hQ : ∀ c a d v w, Q (.panic c) (Act.put a d v) w → Q (.panic c) a w) (hok : (Region.noSelect ops && okT .any ops σB ops.size σ T (Array.replicate ops.size false)) = true)
    (h : ∀ ops', ops' = ops → wpSch P ops' (exitTo Q (contN P ops' Q E σB T)) E σ a w.drew) : (Code.region id ops true).wp P Q a w :=
  wp_region_any hm (any_schT σ T σB hrf htr hQ hok (h ops rfl))

/-! ### within a fence -/
variable {F : Fence} {n : Nat}
/-- An operation that calls no Go function, and defers nothing. -/
def Quiet (P : Program) (o : Oper) : Prop := (∀ c, o.op ≠ .defer c) ∧ (∀ w ρ, o.about P w ρ = none) ∧ ∀ ρ w, match (execOp ρ o).run P w with | .ok (.enter _ _) _ => False | .ok (.row _ _) _ => False | .ok (.round ..) _ => False | _ => True
theorem Oper.wpIn_of_wp {o : Oper} {a : Act} {w : World} {K : Act → World → Prop} (hq : Quiet P o) (h : o.wp P a w K Q) : o.wpIn F n P a w K Q := by
  obtain ⟨h1, h2, h3⟩ := hq
  refine ⟨fun f hf => (by rw [h2] at hf; cases hf), ?_⟩
  rw [Oper.semAt_eq _ _ _ h1]
  have h3 := h3 a.eval w
  unfold Oper.wp at h
  generalize (execOp a.eval o).run P w = r at *
  cases r with
  | ok x w' => cases x <;> first | exact h | exact h3.elim
  | halt x w' => cases x <;> exact h
theorem wpOpIn_of_wpOp {i : Nat} {a : Act} {w : World} {K K' : Act → World → Prop} (hq : ∀ o ∈ ops, Quiet P o) (hQ : ¬ LetsOut Q) (hk : ∀ a w, K a w → K' a w) (h : wpOp P ops Q i K a w) : wpOpIn F n P ops Q i K' a w := by
  unfold wpOp at h
  unfold wpOpIn
  cases ho : ops[i]? with
  | none => rw [ho] at h; exact hk _ _ h
  | some o =>
    rw [ho] at h
    have hm : o ∈ ops := Array.mem_of_getElem? ho
    simp only at h ⊢
    split
    · rename_i hw
      rw [if_pos hw] at h
      rcases h with h | h
      · exact Oper.wpIn_mono hk (Oper.wpIn_of_wp (hq o hm) h)
      · exact absurd h.2 hQ
    · rename_i hw
      rw [if_neg hw] at h
      exact ⟨fun f hf => (by rw [(hq o hm).2.1] at hf; cases hf), hk _ _ h⟩
theorem wpAnyIn_of_wpAny (hq : ∀ o ∈ ops, Quiet P o) (hQ : ¬ LetsOut Q) : ∀ (fuel : Nat) (listed : Array Bool) (a : Act) (w : World), wpAny P md ops Q fuel listed a w → wpAnyIn F n P md ops Q fuel listed a w
  | 0, _, _, _, h => h
  | fuel + 1, _, _, _, h => ⟨h.1, fun i hi => wpOpIn_of_wpOp hq hQ (fun a w => wpAnyIn_of_wpAny hq hQ fuel _ a w) (h.2 i hi)⟩
/-- The region within a fence. -/
theorem regionIn_schT {id : Nat} {a : Act} {w : World} (σ : List (Nat × Bool)) (T : Alt) (σB : List (Nat × Bool)) (hm : P.follows .mixedOrders = true) (hrf : ∀ w, E w w) (htr : ∀ x y z, E x y → E y z → E x z)
    (hQ : ∀ c a d v w, Q (.panic c) (Act.put a d v) w → Q (.panic c) a w) (hok : (Region.noSelect ops && okT .any ops σB ops.size σ T (Array.replicate ops.size false)) = true) (hq : ∀ o ∈ ops, Quiet P o) (hQo : ¬ LetsOut Q)
    (h : ∀ ops', ops' = ops → wpSch P ops' (exitTo Q (contN P ops' Q E σB T)) E σ a w.drew) : (Code.region id ops true).wpIn F n P Q a w :=
  wpIn_region_any hm (wpAnyIn_of_wpAny hq hQo _ _ _ _ (any_schT σ T σB hrf htr hQ hok (h ops rfl)))
/-! which operations are quiet -/
theorem quiet_load {o : Oper} {t : TypeId} {x : Operand} (h : o.op = .load t x) : Quiet P o := ⟨by rw [h]; simp, fun w ρ => by unfold Oper.about; rw [h], fun ρ w => by
  unfold execOp; rw [h]; simp only [Sem.run_bind]; cases (Instr.loadAt t (ρ x)).run P w <;> simp [Result.andThen]⟩
theorem quiet_store {o : Oper} {t : TypeId} {x y : Operand} (h : o.op = .store t x y) : Quiet P o := ⟨by rw [h]; simp, fun w ρ => by unfold Oper.about; rw [h], fun ρ w => by
  unfold execOp; rw [h]; simp only [Sem.run_bind]; cases (Instr.storeAt t (ρ x) (ρ y)).run P w <;> simp [Result.andThen]⟩
theorem quiet_fieldAddr {o : Oper} {t : TypeId} {x : Operand} {k : Nat} (h : o.op = .fieldAddr t x k) : Quiet P o := ⟨by rw [h]; simp, fun w ρ => by unfold Oper.about; rw [h], fun ρ w => by
  unfold execOp; rw [h]; simp only [Sem.run_bind]; generalize Sem.run P _ w = r; cases r <;> simp [Result.andThen]⟩
theorem quiet_buildSlice {o : Oper} {t : TypeId} {k : Nat} {x : Array (Nat × Operand)} (h : o.op = .buildSlice t k x) : Quiet P o := ⟨by rw [h]; simp, fun w ρ => by unfold Oper.about; rw [h], fun ρ w => by
  unfold execOp; rw [h]; simp only [Sem.run_bind]; generalize Sem.run P _ w = r; cases r <;> simp [Result.andThen]⟩
theorem quiet_append {o : Oper} {xs : Array Operand} {ts : Array TypeId} (h : o.op = .call { callee := .builtin .append, args := xs, argTypes := ts }) : Quiet P o := ⟨by rw [h]; simp, fun w ρ => by
  unfold Oper.about; rw [h]; simp [resolve, Target.leads], fun ρ w => by
  unfold execOp; rw [h]; simp only [resolve, invoke, builtin, Sem.run_bind, Sem.run_pure, Result.andThen_ok]; generalize (Builtin.append_ _ _ _).run P w = r; cases r <;> simp [Result.andThen]⟩
end
end Go.Proofs.YtoidlmhebnlnbaaDoor
/- chain: the two variables of Read's loop, which grow round by round. -/
set_option linter.unusedVariables false
set_option linter.unusedSimpArgs false
namespace Go.Proofs.YtoidlmhebnlnbaaDoor
open Go.ChangeShapes Go.WideShapes Go.ChangeAt Go.RowKit
set_option maxRecDepth 100000

theorem u8_ne_int : (5 : TypeId) ≠ 3 := by decide
theorem OwnV.rowcells {e : TypeId} {w : World} {base k : Nat} {v : Value} {vs : List Value} (h : OwnV e w base v vs) (hk : v.ownBlock = some k) : ∃ cur, w.heap[k]? = some (.cells cur e (0, 0)) := by
  rcases h.2 with ⟨rfl, _⟩ | ⟨g, cap, cur, rfl, _, hg, _⟩
  · cases hk
  · simp only [Value.ownBlock, Option.some.injEq] at hk; subst hk; exact ⟨cur, hg⟩
theorem OwnV.kp {e : TypeId} {w w' : World} {base : Nat} {v : Value} {vs : List Value} {K : List Nat} (h : OwnV e w base v vs) (k : KP K w w') (hv : ∀ b, v.ownBlock = some b → b ∈ K) : OwnV e w' base v vs := by
  unfold OwnV at *
  rcases h with ⟨h1, h2 | ⟨g, cap, cur, h3, h4, h5, h6⟩⟩
  · exact ⟨h1, .inl h2⟩
  · refine ⟨h1, .inr ⟨g, cap, cur, h3, h4, ?_, h6⟩⟩
    rw [k.2 g (hv g (by rw [h3]; rfl))]
    exact h5
theorem OwnV.ne_of {e e' : TypeId} (hne : e ≠ e') {w : World} {b b' : Nat} {v u : Value} {vs us : List Value} (h : OwnV e w b v vs) (h' : OwnV e' w b' u us) : v.ownBlock = none ∨ v.ownBlock ≠ u.ownBlock := by
  cases hv : v.ownBlock with
  | none => exact .inl rfl
  | some k =>
    right
    intro hu
    obtain ⟨c1, q1⟩ := h.rowcells hv
    obtain ⟨c2, q2⟩ := h'.rowcells hu.symm
    rw [q1] at q2
    simp only [Option.some.injEq, Obj.cells.injEq] at q2
    exact hne q2.2.1
theorem OwnV.put {e : TypeId} {w : World} {base l : Nat} {v : Value} {vs : List Value} {o o' : Obj} (h : OwnV e w base v vs) (hl : w.heap[l]? = some o) (hc : o.isCells = false) : OwnV e (w.putObj l o') base v vs := by
  unfold OwnV at *
  rcases h with ⟨h1, h2 | ⟨g, cap, cur, h3, h4, h5, h6⟩⟩
  · exact ⟨h1, .inl h2⟩
  · refine ⟨h1, .inr ⟨g, cap, cur, h3, h4, ?_, h6⟩⟩
    rw [World.putObj_heap_other (fun e => ?_)]
    · exact h5
    · subst e; rw [hl] at h5; cases h5; cases hc
theorem boxed_put {W : World} {B l : Nat} {t : TypeId} {v : Value} {o o' : Obj} (h : Boxed W B t v) (hl : W.heap[l]? = some o) (hc : o.isCells = false) : Boxed (W.putObj l o') B t v := by
  refine (World.putObj_heap_other (fun e => ?_)).trans h
  subst e
  rw [show W.heap[B]? = _ from h] at hl
  cases hl; cases hc
theorem boxed_kp {W W' : World} {B : Nat} {t : TypeId} {v : Value} {K : List Nat} (h : Boxed W B t v) (k : KP K W W') (hb : B ∈ K) : Boxed W' B t v := (k.2 B hb).trans h

theorem cells_not_row {W : World} {g base : Nat} {cs : Array Value} {t e : TypeId} {fr : Nat × Nat} {v : Value} {vs : List Value} (h : W.heap[g]? = some (.cells cs t fr)) (hte : t ≠ e) (hr : OwnV e W base v vs) : some g ≠ v.ownBlock := by
  intro e'
  obtain ⟨cur, hc⟩ := hr.rowcells e'.symm
  rw [hc] at h
  simp only [Option.some.injEq, Obj.cells.injEq] at h
  exact hte h.2.1.symm
theorem kp_row {K : List Nat} {W W' : World} {row : Option Nat} (hg : W.grownBy W' row) (h : ∀ b ∈ K, b < W.heap.size ∧ some b ≠ row) : KP K W W' := ⟨hg.size, fun b hb => hg.block b (h b hb).1 (h b hb).2⟩
theorem kp_alloc {K : List Nat} (W : World) (o : Obj) (h : ∀ b ∈ K, b < W.heap.size) : KP K W (W.alloc o) := ⟨((FB.refl W).alloc o).le, fun b hb => ((FB.refl W).alloc o).block b (h b hb)⟩
/-- Amid the body: what it has done to the world since W. -/
structure ChQ (K : List Nat) (B q : Nat) (v0 u0 : Value) (W : World) (v : Value) (bs : List Byte) (u : Value) (ps : List Value) (W' : World) : Prop where
  ts : TS K W W'
  kf : KeepsOthers W W'
  bl : Below q W W'
  x1 : Boxed W' q 27 v0
  x2 : Boxed W' (q + 1) 26 u0
  ob : Own W' q v bs
  op : OwnV 3 W' q u ps
  ib : ∀ k, v.ownBlock = some k → k ∈ K ∨ W.heap.size ≤ k
  ip : ∀ k, u.ownBlock = some k → k ∈ K ∨ W.heap.size ≤ k
section
variable {K : List Nat} {B q : Nat} {v0 u0 v u v' : Value} {W W' w' : World} {bs : List Byte} {ps : List Value}
theorem ChQ.alloc (h : ChQ K B q v0 u0 W v bs u ps W') (o : Obj) : ChQ K B q v0 u0 W v bs u ps (W'.alloc o) :=
  ⟨h.ts.then (TS.of ((FB.refl _).alloc o)), h.kf.trans (KeepsOthers.alloc _ _), h.bl.alloc (Nat.le_of_lt h.x1.lt) _, h.x1.alloc _, h.x2.alloc _, h.ob.alloc _, h.op.alloc _, h.ib, h.ip⟩
theorem ts_row (t : TS K W W') (hg : W'.grownBy w' v.ownBlock) (ib : ∀ k, v.ownBlock = some k → k ∈ K ∨ W.heap.size ≤ k) : TS K W w' :=
  t.trans (F' := v.ownBlock.toList) ⟨hg.os, hg.tape, hg.output, hg.size, fun k hk hn => hg.block k hk (fun e => hn (by rw [← e]; simp))⟩ (fun x hx => ib x (by simpa using hx))
theorem ChQ.apB (h : ChQ K B q v0 u0 W v bs u ps W') {bs' : List Byte} (ho : Own w' q v' bs') (hg : W'.grownBy w' v.ownBlock) (hn : v'.ownBlock = v.ownBlock ∨ v'.ownBlock = some W'.heap.size) : ChQ K B q v0 u0 W v' bs' u ps w' := by
  refine ⟨ts_row h.ts hg h.ib, h.kf.trans (KeepsOthers.of_grownBy hg fun j o hj ho => ?_), h.bl.grown hg (Nat.le_of_lt h.x1.lt) (fun k hk => (h.ob.base k hk).1), h.x1.kept hg (h.x1.not_row (by decide) h.ob), h.x2.kept hg (h.x2.not_row (by decide) h.ob), ho, h.op.grown hg (OwnV.ne_of (Ne.symm u8_ne_int) h.op h.ob), fun k hk => ?_, h.ip⟩
  · obtain ⟨cur, hc⟩ := OwnV.rowcells h.ob hj
    rw [hc] at ho; cases ho; rfl
  · rcases hn with e | e
    · exact h.ib k (by rw [← e]; exact hk)
    · rw [e] at hk; cases hk; exact .inr h.ts.size
theorem ChQ.apP (h : ChQ K B q v0 u0 W v bs u ps W') {ps' : List Value} {u' : Value} (ho : OwnV 3 w' q u' ps') (hg : W'.grownBy w' u.ownBlock) (hn : u'.ownBlock = u.ownBlock ∨ u'.ownBlock = some W'.heap.size) : ChQ K B q v0 u0 W v bs u' ps' w' := by
  refine ⟨ts_row h.ts hg h.ip, h.kf.trans (KeepsOthers.of_grownBy hg fun j o hj ho => ?_), h.bl.grown hg (Nat.le_of_lt h.x1.lt) (fun k hk => (h.op.base k hk).1), h.x1.kept hg (h.x1.not_row (by decide) h.op), h.x2.kept hg (h.x2.not_row (by decide) h.op), OwnV.grown h.ob hg (OwnV.ne_of u8_ne_int h.ob h.op), ho, h.ib, fun k hk => ?_⟩
  · obtain ⟨cur, hc⟩ := h.op.rowcells hj
    rw [hc] at ho; cases ho; rfl
  · rcases hn with e | e
    · exact h.ip k (by rw [← e]; exact hk)
    · rw [e] at hk; cases hk; exact .inr h.ts.size
/-- The one variable is written, and the other. -/
theorem ChQ.sets (h : ChQ K B q v0 u0 W v bs u ps W') (h1 : q ∈ K) (h2 : q + 1 ∈ K) :
    TS K W ((W'.setCell ⟨q, 0, none⟩ v).setCell ⟨q + 1, 0, none⟩ u) ∧ Below q W ((W'.setCell ⟨q, 0, none⟩ v).setCell ⟨q + 1, 0, none⟩ u) ∧ KeepsOthers W ((W'.setCell ⟨q, 0, none⟩ v).setCell ⟨q + 1, 0, none⟩ u) ∧ Boxed ((W'.setCell ⟨q, 0, none⟩ v).setCell ⟨q + 1, 0, none⟩ u) q 27 v ∧ Boxed ((W'.setCell ⟨q, 0, none⟩ v).setCell ⟨q + 1, 0, none⟩ u) (q + 1) 26 u ∧
      Own ((W'.setCell ⟨q, 0, none⟩ v).setCell ⟨q + 1, 0, none⟩ u) q v bs ∧ OwnV 3 ((W'.setCell ⟨q, 0, none⟩ v).setCell ⟨q + 1, 0, none⟩ u) q u ps := by
  have t1 := TS.tb (F := K) (TB.set (g := q) W' 0 v) h1
  have t2 := TS.tb (F := K) (TB.set (g := q + 1) (W'.setCell ⟨q, 0, none⟩ v) 0 u) h2
  have g1 : W'.grownBy (W'.setCell ⟨q, 0, none⟩ v) (some q) := TB.set (g := q) W' 0 v
  have g2 : (W'.setCell ⟨q, 0, none⟩ v).grownBy ((W'.setCell ⟨q, 0, none⟩ v).setCell ⟨q + 1, 0, none⟩ u) (some (q + 1)) := TB.set (g := q + 1) _ 0 u
  have n1 := h.x1.not_row (e := 5) (by decide) h.ob
  have n2 := h.x1.not_row (e := 3) (by decide) h.op
  have n3 := h.x2.not_row (e := 5) (by decide) h.ob
  have n4 := h.x2.not_row (e := 3) (by decide) h.op
  have ne : ∀ {x : Value} {y : Nat}, some y ≠ x.ownBlock → x.ownBlock = none ∨ x.ownBlock ≠ some y := fun hh => .inr (Ne.symm hh)
  exact ⟨(h.ts.then t1).then t2, (h.bl.setCell (Nat.le_refl _) _).setCell (Nat.le_succ _) _, (h.kf.trans (KeepsOthers.setCell _ _ _)).trans (KeepsOthers.setCell _ _ _), (h.x1.set v).kept g2 (by simp), (h.x2.kept g1 (by simp)).set u,
    OwnV.grown (OwnV.grown h.ob g1 (ne n1)) g2 (ne n3), (h.op.grown g1 (ne n2)).grown g2 (ne n4)⟩
end
/-- What the two variables hold between the rounds. -/
structure ChC (K0 : List Nat) (w : World) (q : Nat) (pre : List ChX) (K : List Nat) (W : World) : Prop where
  ex : ∃ v u, Boxed W q 27 v ∧ Boxed W (q + 1) 26 u ∧ Own W q v (pre.flatMap (·.b)) ∧ OwnV 3 W q u (pre.map fun x => .int .i64 x.pg) ∧ (∀ k, v.ownBlock = some k → k ∈ K) ∧ (∀ k, u.ownBlock = some k → k ∈ K)
  q0 : q ∈ K
  q1 : q + 1 ∈ K
  lt : ∀ k ∈ K, k < W.heap.size
  kp : KP K0 w W
  sub : ∀ k ∈ K0, k ∈ K
  ge : ∀ k ∈ K, k ∈ K0 ∨ w.heap.size ≤ k
  wq : w.heap.size ≤ q
section
variable {K0 K K' : List Nat} {q : Nat} {w W W' : World} {pre : List ChX}
theorem ChC.st (h : ChC K0 w q pre K W) (k : KP K W W') : ChC K0 w q pre K W' := by
  obtain ⟨v, u, h1, h2, h3, h4, h5, h6⟩ := h.ex
  exact ⟨⟨v, u, boxed_kp h1 k h.q0, boxed_kp h2 k h.q1, OwnV.kp h3 k h5, h4.kp k h6, h5, h6⟩, h.q0, h.q1, fun x hx => Nat.lt_of_lt_of_le (h.lt x hx) k.1, h.kp.trans (k.fewer h.sub), h.sub, h.ge, h.wq⟩
theorem ChC.put (h : ChC K0 w q pre K W) (hk : ∀ k ∈ K0, k < w.heap.size) {l : Nat} {o o' : Obj} (hl : w.heap.size ≤ l) (ho : W.heap[l]? = some o) (hc : o.isCells = false) : ChC K0 w q pre K (W.putObj l o') := by
  obtain ⟨v, u, h1, h2, h3, h4, h5, h6⟩ := h.ex
  exact ⟨⟨v, u, boxed_put h1 ho hc, boxed_put h2 ho hc, OwnV.put h3 ho hc, h4.put ho hc, h5, h6⟩, h.q0, h.q1, fun x hx => by simpa using h.lt x hx, h.kp.trans (KP.put (fun hm => by have := hk l hm; omega) _), h.sub, h.ge, h.wq⟩
/-- More blocks are its own. -/
theorem ChC.more (h : ChC K0 w q pre K W') (t : Turns K K' W W') (hw : w.heap.size ≤ W.heap.size := by assumption) : ChC K0 w q pre K' W' := by
  obtain ⟨v, u, h1, h2, h3, h4, h5, h6⟩ := h.ex
  refine ⟨⟨v, u, h1, h2, h3, h4, fun k hk => t.sub _ (h5 k hk), fun k hk => t.sub _ (h6 k hk)⟩, t.sub _ h.q0, t.sub _ h.q1, t.lt, h.kp, fun k hk => t.sub _ (h.sub k hk), fun k hk => ?_, h.wq⟩
  rcases t.new k hk with e | e
  · exact h.ge k e
  · exact .inr (Nat.le_trans hw e)
/-- A round is over. -/
theorem ChC.next {B : Nat} {v u v' u' : Value} (h : ChC K0 w q pre K W) (x : ChX) (hk : ∀ k ∈ K0, k < w.heap.size) (hq : ChQ K B q v u W v' (pre.flatMap (·.b) ++ x.b) u' ((pre.map fun x => .int .i64 x.pg) ++ [.int .i64 x.pg]) W') :
    KeepsFrom B W ((W'.setCell ⟨q, 0, none⟩ v').setCell ⟨q + 1, 0, none⟩ u') ∧ ∃ K', Turns K K' W ((W'.setCell ⟨q, 0, none⟩ v').setCell ⟨q + 1, 0, none⟩ u') ∧ ChC K0 w q (pre ++ [x]) K' ((W'.setCell ⟨q, 0, none⟩ v').setCell ⟨q + 1, 0, none⟩ u') := by
  obtain ⟨s1, s2, s3, s4, s5, s6, s7⟩ := hq.sets h.q0 h.q1
  have hT := Turns.of s1 h.lt
  refine ⟨s3.from _, _, hT, ⟨⟨v', u', s4, s5, by rw [List.flatMap_append]; simpa using s6, by rw [List.map_append]; exact s7, fun k hv => ?_, fun k hv => ?_⟩, hT.sub _ h.q0, hT.sub _ h.q1, hT.lt, ?_, fun k hk0 => hT.sub _ (h.sub k hk0), fun k hk' => ?_, h.wq⟩⟩
  · rcases hq.ib k hv with e | e
    · exact List.mem_append_right _ e
    · have h2 := (s6.base k hv).2
      exact List.mem_append_left _ (List.mem_range'_1.2 ⟨e, by omega⟩)
  · rcases hq.ip k hv with e | e
    · exact List.mem_append_right _ e
    · have h2 := (s7.base k hv).2
      exact List.mem_append_left _ (List.mem_range'_1.2 ⟨e, by omega⟩)
  · exact h.kp.trans ⟨s2.size, fun b hb => s2.block b (Nat.lt_of_lt_of_le (hk b hb) h.wq)⟩
  · rcases hT.new k hk' with e | e
    · exact h.ge k e
    · right; exact Nat.le_trans h.kp.1 e
end
end Go.Proofs.YtoidlmhebnlnbaaDoor
