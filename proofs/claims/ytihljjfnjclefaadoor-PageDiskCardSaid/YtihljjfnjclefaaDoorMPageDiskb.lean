/- Walks and laws that the claim's last text stands on, several texts in one file: Sched, SchL, SchB, Cpy, CrcP. Under the hypotheses that each theorem states. -/
import Derived.Laws.CopyOwn
import Derived.Test.YtihljjfnjclefaaDoorMPageDiska
/- A region whose order is open, walked in one order of the prover's choice: what only reads is taken as soon as it may come up, what makes memory or calls comes up alone. No program in sight.
   E w w': what one step of the region may do to the world (a preorder: 'nothing that was there has turned'). -/
set_option linter.unusedVariables false
set_option linter.unusedSimpArgs false
namespace Go.Proofs.YtihljjfnjclefaaDoor

section
variable {P : Program} {ops : Array Oper} {Q : Exit → Act → World → Prop} {md : Region.Mode} {E : World → World → Prop}

/-- Whatever order is picked, and each step does to the world what E allows. -/
def anyE (P : Program) (md : Region.Mode) (ops : Array Oper) (Q : Exit → Act → World → Prop) (E : World → World → Prop) : Nat → Array Bool → Act → World → Prop
  | 0, listed, a, w => Region.ready md ops listed = [] ∧ Q .normal a w
  | fuel + 1, listed, a, w =>
    (Region.ready md ops listed = [] → Q .normal a w) ∧
    ∀ i ∈ Region.ready md ops listed, wpOp P ops Q i (fun a' w' => E w w' ∧ anyE P md ops Q E fuel (listed.setIfInBounds i true) a' w') a w
theorem wpAny_of_anyE : ∀ (fuel : Nat) (listed : Array Bool) (a : Act) (w : World), anyE P md ops Q E fuel listed a w → wpAny P md ops Q fuel listed a w
  | 0, _, _, _, h => h
  | fuel + 1, _, _, _, h => ⟨h.1, fun i hi => wpOp_mono (fun a' w' h' => wpAny_of_anyE fuel _ a' w' h'.2) (h.2 i hi)⟩

theorem yieldsE_mono {S S' : World → Prop} {o : Oper} {v : Value} {a : Act} (h : YieldsIf P ops S o v a) (hs : ∀ w, S' w → S w) : YieldsIf P ops S' o v a :=
  h.imp (fun ⟨h1, h2⟩ => ⟨h1, fun w hw => h2 w (hs w hw)⟩) id

/-- An operation that yields its value in every world that may come from the one at hand may be taken first. -/
theorem anyE_first {i : Nat} {oi : Oper} {v : Value} (hrf : ∀ w, E w w) (htr : ∀ x y z, E x y → E y z → E x z) (hi : ops[i]? = some oi) (hsel : ∀ (j : Nat) (o : Oper) cs b, ops[j]? = some o → o.op ≠ .select cs b)
    (hQ : ∀ c a w, Q (.panic c) (a.put oi.dst v) w → Q (.panic c) a w) :
    ∀ (fuel : Nat) (listed : Array Bool) (a : Act) (w : World),
      (∀ j oj, ops[j]? = some oj → j ≠ i → listed.getD j true = false → (∀ e ∈ oj.after, Region.binds md e = true → e.on ≠ i) → oi.apart ops oj = true) →
      i ∈ Region.ready md ops listed → YieldsIf P ops (E w) oi v a →
      anyE P md ops Q E fuel (listed.setIfInBounds i true) (a.put oi.dst v) w → anyE P md ops Q E (fuel + 1) listed a w := by
  intro fuel
  induction fuel with
  | zero =>
    intro listed a w _ hr hy H
    refine ⟨fun h => (by rw [h] at hr; cases hr), fun j hj => ?_⟩
    by_cases hji : j = i
    · subst hji; exact hy.wpOp hi (hrf w) ⟨hrf w, H⟩
    · have := ready_mono hj hji
      rw [H.1] at this
      cases this
  | succ fuel ih =>
    intro listed a w hfree hr hy H
    refine ⟨fun h => (by rw [h] at hr; cases hr), fun j hj => ?_⟩
    by_cases hji : j = i
    · subst hji; exact hy.wpOp hi (hrf w) ⟨hrf w, H⟩
    · have h1 := H.2 j (ready_mono hj hji)
      obtain ⟨hjun, oj, hoj, hall⟩ := mem_ready.1 hj
      have hnot : ∀ e ∈ oj.after, Region.binds md e = true → e.on ≠ i := fun e he hb heq => by
        have h1 := hall e he hb
        have h0 := (mem_ready.1 hr).1
        rw [heq] at h1
        rcases Nat.lt_or_ge i listed.size with h' | h'
        · simp [h'] at h0 h1; rw [h0] at h1; cases h1
        · simp [Array.getElem?_eq_none h'] at h1
      have h2 := wpOp_putIf hoj (hfree j oj hoj hji hjun hnot) (fun cs b => hsel i oi cs b hi) (fun cs b => hsel j oj cs b hoj) hQ hy h1
      have hfree' : ∀ k ok, ops[k]? = some ok → k ≠ i → (listed.setIfInBounds j true).getD k true = false →
          (∀ e ∈ ok.after, Region.binds md e = true → e.on ≠ i) → oi.apart ops ok = true := fun k ok hk hki hun hno => by
        refine hfree k ok hk hki ?_ hno
        by_cases hjk : j = k
        · subst hjk; exact hjun
        · rw [getD_set_ne true hjk] at hun; exact hun
      refine wpOp_mono (fun a' w' h3 => ⟨h3.2.1, ih (listed.setIfInBounds j true) a' w' hfree' (ready_mono hr (Ne.symm hji)) (yieldsE_mono h3.1 fun W hW => htr _ _ _ h3.2.1 hW) ?_⟩) h2
      rw [Array.setIfInBounds_comm _ _ hji]
      exact h3.2.2

/-- Is this list an order in which the region may be walked? (number, taken first) -/
def okS (md : Region.Mode) (ops : Array Oper) : List (Nat × Bool) → Array Bool → Bool
  | [], listed => Region.ready md ops listed == []
  | (i, b) :: σ, listed => (if b then (Region.ready md ops listed).contains i && Region.free md ops listed i else Region.ready md ops listed == [i]) && okS md ops σ (listed.setIfInBounds i true)

def wpSch (P : Program) (ops : Array Oper) (Q : Exit → Act → World → Prop) (E : World → World → Prop) : List (Nat × Bool) → Act → World → Prop
  | [], a, w => Q .normal a w
  | (i, b) :: σ, a, w => if b then ∃ o v, ops[i]? = some o ∧ YieldsIf P ops (E w) o v a ∧ wpSch P ops Q E σ (a.put o.dst v) w
    else wpOp P ops Q i (fun a' w' => E w w' ∧ wpSch P ops Q E σ a' w') a w

theorem anyE_of_sch (hrf : ∀ w, E w w) (htr : ∀ x y z, E x y → E y z → E x z) (hs : Region.noSelect ops = true) (hQ : ∀ c a d v w, Q (.panic c) (Act.put a d v) w → Q (.panic c) a w) :
    ∀ (σ : List (Nat × Bool)) (listed : Array Bool) (a : Act) (w : World), okS md ops σ listed = true → wpSch P ops Q E σ a w → anyE P md ops Q E σ.length listed a w := by
  intro σ
  induction σ with
  | nil => intro listed a w hok h; exact ⟨by simpa [okS] using hok, h⟩
  | cons x σ ih =>
    obtain ⟨i, b⟩ := x
    intro listed a w hok h
    simp only [okS, Bool.and_eq_true] at hok
    obtain ⟨hok1, hok2⟩ := hok
    cases b with
    | true =>
      simp only [if_true, Bool.and_eq_true] at hok1
      simp only [wpSch, if_true] at h
      obtain ⟨o, v, hi, hy, h⟩ := h
      exact anyE_first hrf htr hi (Region.noSelect_spec hs) (fun c a w => hQ c a _ _ w) σ.length listed a w (Region.free_spec hi hok1.2) (by simpa using hok1.1) hy (ih _ _ _ hok2 h)
    | false =>
      have hr : Region.ready md ops listed = [i] := by simpa using hok1
      simp only [wpSch, Bool.false_eq_true, if_false] at h
      refine ⟨fun h0 => (by rw [h0] at hr; cases hr), fun j hj => ?_⟩
      rw [hr, List.mem_singleton] at hj
      subst hj
      exact wpOp_mono (fun a' w' h' => ⟨h'.1, ih _ _ _ hok2 h'.2⟩) h

/-- THE BEGINNING: the region, by the order σ. -/
theorem region_sch {id : Nat} {a : Act} {w : World} (σ : List (Nat × Bool)) (hm : P.follows .mixedOrders = true) (hrf : ∀ w, E w w) (htr : ∀ x y z, E x y → E y z → E x z)
    (hQ : ∀ c a d v w, Q (.panic c) (Act.put a d v) w → Q (.panic c) a w) (hok : (Region.noSelect ops && σ.length == ops.size && okS .any ops σ (Array.replicate ops.size false)) = true)
    (h : ∀ ops', ops' = ops → wpSch P ops' Q E σ a w.drew) : (Code.region id ops true).wp P Q a w := by
  replace h := h ops rfl
  simp only [Bool.and_eq_true, beq_iff_eq] at hok
  obtain ⟨⟨h1, h2⟩, h3⟩ := hok
  refine wp_region_any hm (wpAny_of_anyE (E := E) _ _ _ _ ?_)
  rw [← h2] at h3 ⊢
  exact anyE_of_sch hrf htr h1 hQ σ _ _ _ h3 h

/-! ### the steps (the region's operations stand behind a name, so that nothing reads them anew at each step: 'ops' = ..') -/
theorem at_of {ops ops' : Array Oper} (h : ops' = ops) {i : Nat} {o : Oper} (hi : ops[i]? = some o) : ops'[i]? = some o := h ▸ hi
theorem sch_take {i : Nat} {σ : List (Nat × Bool)} {o : Oper} {v : Value} {a a' : Act} {w : World} (hi : ops[i]? = some o) (hw : Region.wanted o (yielded ops a.tmps) = true)
    (hy : ∀ W, E w W → (execOp a.eval o).run P W = .ok (.value v) W) (ha : a.put o.dst v = a') (h : wpSch P ops Q E σ a' w) : wpSch P ops Q E ((i, true) :: σ) a w := by
  simp only [wpSch, if_true]
  exact ⟨o, v, hi, .inl ⟨hw, hy⟩, ha ▸ h⟩
theorem sch_skip {i : Nat} {b : Bool} {σ : List (Nat × Bool)} {o : Oper} {a a' : Act} {w : World} (hrf : ∀ w, E w w) (hi : ops[i]? = some o) (hw : Region.wanted o (yielded ops a.tmps) = false)
    (ha : a.put o.dst undef = a') (h : wpSch P ops Q E σ a' w) : wpSch P ops Q E ((i, b) :: σ) a w := by
  subst ha
  cases b with
  | true => simp only [wpSch, if_true]; exact ⟨o, undef, hi, .inr ⟨hw, rfl⟩, h⟩
  | false =>
    simp only [wpSch, Bool.false_eq_true, if_false]
    unfold wpOp
    simp only [hi, hw, Bool.false_eq_true, if_false]
    exact ⟨hrf w, h⟩
theorem sch_eff {i : Nat} {σ : List (Nat × Bool)} {o : Oper} {a : Act} {w : World} (hi : ops[i]? = some o) (hw : Region.wanted o (yielded ops a.tmps) = true)
    (h : ∀ K : Act → World → Prop, (∀ a' w', E w w' → wpSch P ops Q E σ a' w' → K a' w') → o.wp P a w K Q) : wpSch P ops Q E ((i, false) :: σ) a w := by
  simp only [wpSch, Bool.false_eq_true, if_false]
  unfold wpOp
  simp only [hi, hw, if_true]
  exact .inl (h _ fun a' w' h1 h2 => ⟨h1, h2⟩)
/-- A step that makes memory, by its run equation. -/
theorem sch_run {i : Nat} {σ : List (Nat × Bool)} {o : Oper} {v : Value} {a a' : Act} {w w' : World} (hi : ops[i]? = some o) (hw : Region.wanted o (yielded ops a.tmps) = true)
    (hr : (execOp a.eval o).run P w = .ok (.value v) w') (hE : E w w') (ha : a.put o.dst v = a') (h : wpSch P ops Q E σ a' w') : wpSch P ops Q E ((i, false) :: σ) a w :=
  sch_eff hi hw fun K hK => by
    unfold Oper.wp
    rw [hr]
    exact hK _ _ hE (ha ▸ h)
/-- A call of a Go function. -/
theorem sch_call {i : Nat} {σ : List (Nat × Bool)} {o : Oper} {a : Act} {w : World} {f : FuncId} {args : Array Value} (hi : ops[i]? = some o) (hw : Region.wanted o (yielded ops a.tmps) = true)
    (hr : (execOp a.eval o).run P w = .ok (.enter f args) w) (hc : Calls P f args w fun e w' => ∃ v, e = .returned v ∧ E w w' ∧ ∀ a', a.put o.dst v = a' → wpSch P ops Q E σ a' w') : wpSch P ops Q E ((i, false) :: σ) a w :=
  sch_eff hi hw fun K hK => by
    unfold Oper.wp
    rw [hr]
    refine Calls.mono hc fun e w' ⟨v, he, hE, h⟩ => ?_
    subst he
    exact hK _ _ hE (h _ rfl)
/-- A whole array out of its block. -/
theorem sch_loadA {i : Nat} {σ : List (Nat × Bool)} {o : Oper} {a a' : Act} {w : World} (hi : ops[i]? = some o) (hw : Region.wanted o (yielded ops a.tmps) = true) (ty : TypeId) (x : Operand) (ho : o.op = .load ty x)
    (g : Nat) (hx : a.eval x = .pointer (some ⟨g, 0, none⟩)) (t : TypeId) (cs : Array Value) (fr : Nat × Nat) (d : TypeDesc) (hg : ∀ W, E w W → W.heap[g]? = some (.cells cs t fr))
    (hu : P.underlying ty = some d) (hd : (match d with | .struct _ | .array _ _ => true | _ => false) = true) (hs : (P.info? ty).map (·.size) = some cs.size)
    (ha : a.put o.dst (.agg cs) = a') (h : wpSch P ops Q E σ a' w) : wpSch P ops Q E ((i, true) :: σ) a w :=
  sch_take hi hw (fun W hW => by
    unfold execOp
    simp only [ho, hx, Instr.loadAt, Instr.sureAddr, Sem.run_bind, Sem.run_pure, Result.andThen_ok, run_loadVar_row W g t ty cs fr d (hg W hW) hu hd hs]) ha h
/-- 'append(v, x...)' onto a row of the call's own. -/
theorem sch_append {i : Nat} {σ : List (Nat × Bool)} {o : Oper} {a : Act} {w : World} (hi : ops[i]? = some o) (hw : Region.wanted o (yielded ops a.tmps) = true) (s x : Operand) (t e : TypeId) (bytes : Nat) (z : Value)
    (ht : P.underlying t = some (.slice e)) (hinfo : (P.info? e).map (fun i => (i.zero, i.size, i.bytes)) = some (some z, 1, bytes)) (hzs : z.cells.size = 1)
    (ho : o.op = .call { callee := .builtin .append, args := #[s, x], argTypes := #[t, t] })
    (base : Nat) (v : Value) (xs : List Value) (hown : OwnV e w base v xs) (hs : a.eval s = v) (A : Option Addr) (n c : Nat) (ys : List Value) (hn : n = ys.length) (hx : a.eval x = .slice A n c) (hr : RdV w A ys) (h1 : ∀ u ∈ ys, u.oneCell' = true)
    (h63 : xs.length + ys.length ≤ maxLen) (hbytes : (xs.length + ys.length) * bytes ≤ 140737488355328) (hbase : base ≤ w.heap.size)
    (h : ∀ v' w', OwnV e w' base v' (xs ++ ys) → w.grownBy w' v.ownBlock → (v'.ownBlock = v.ownBlock ∨ v'.ownBlock = some w.heap.size) → E w w' ∧ ∀ a', a.put o.dst v' = a' → wpSch P ops Q E σ a' w') : wpSch P ops Q E ((i, false) :: σ) a w := by
  subst hn
  obtain ⟨v', w', hrun, h2, h3, h4⟩ := run_append_any (P := P) w base t o.type e bytes z ht hinfo hzs v xs hown A c ys hr h1 h63 hbytes hbase
  obtain ⟨hE, hk⟩ := h v' w' h2 h3 h4
  refine sch_run hi hw ?_ hE rfl (hk _ rfl)
  unfold execOp
  simp only [ho, resolve, invoke, builtin, Sem.run_bind, Sem.run_pure, Result.andThen_ok, List.map_toArray, List.map_cons, List.map_nil, hs, hx, hrun]
theorem sch_done {a : Act} {w : World} (h : Q .normal a w) : wpSch P ops Q E [] a w := h
end
theorem sch_append_bytes {ops : Array Oper} {Q : Exit → Act → World → Prop} {E : World → World → Prop} {i : Nat} {σ : List (Nat × Bool)} {o : Oper} {a : Act} {w : World} (hi : ops[i]? = some o) (hw : Region.wanted o (yielded ops a.tmps) = true) (s x : Operand)
    (ho : o.op = .call { callee := .builtin .append, args := #[s, x], argTypes := #[23, 23] })
    (base : Nat) (v : Value) (xs : List Byte) (hown : Own w base v xs) (hs : a.eval s = v) (A : Option Addr) (n c : Nat) (ys : List Byte) (hn : n = ys.length) (hx : a.eval x = .slice A n c) (hr : Rd w A ys)
    (hlen : xs.length + ys.length ≤ 140737488355328) (hbase : base ≤ w.heap.size)
    (h : ∀ v' w', Own w' base v' (xs ++ ys) → w.grownBy w' v.ownBlock → (v'.ownBlock = v.ownBlock ∨ v'.ownBlock = some w.heap.size) → E w w' ∧ ∀ a', a.put o.dst v' = a' → wpSch Tryd.prog ops Q E σ a' w') : wpSch Tryd.prog ops Q E ((i, false) :: σ) a w :=
  sch_append hi hw s x 23 5 1 (.int .u8 0) Tryd.underlying23 info_u8 rfl ho base v (vbs xs) hown hs A n c (vbs ys) (by rw [vbs_length]; exact hn) hx hr (vbs_oneCell ys)
    (by rw [vbs_length, vbs_length, maxLen_eq]; omega) (by rw [vbs_length, vbs_length]; omega) hbase (fun v' w' h2 h3 h4 => h v' w' (by unfold Own; rw [vbs_append]; exact h2) h3 h4)

theorem fb_trans (x y z : World) (h : FB x y) (k : FB y z) : FB x z := h.call k

end Go.Proofs.YtihljjfnjclefaaDoor
/- A region whose order is open and whose last operation, behind all others, is a store into what the others read. -/
set_option linter.unusedVariables false
set_option linter.unusedSimpArgs false
namespace Go.Proofs.YtihljjfnjclefaaDoor

section
variable {P : Program} {ops : Array Oper} {Q : Exit → Act → World → Prop} {md : Region.Mode} {E : World → World → Prop} {s : Nat}

/-- Behind the others the operation s. -/
def withLast (P : Program) (ops : Array Oper) (Q : Exit → Act → World → Prop) (s : Nat) : Exit → Act → World → Prop
  | .normal, a, w => wpOp P ops Q s (fun a' w' => Q .normal a' w') a w
  | e, a, w => Q e a w

theorem Oper.wp_withLast {o : Oper} {a : Act} {w : World} {K : Act → World → Prop} (h : o.wp P a w K (withLast P ops Q s)) : o.wp P a w K Q := by
  unfold Oper.wp at *
  generalize (execOp a.eval o).run P w = r at *
  cases r with
  | ok n w' => cases n <;> exact h
  | halt x w' => cases x <;> exact h
theorem wpOp_withLast {i : Nat} {a : Act} {w : World} {K : Act → World → Prop} (h : wpOp P ops (withLast P ops Q s) i K a w) : wpOp P ops Q i K a w := by
  unfold wpOp at *
  split
  · simpa [*] using h
  · rename_i o ho
    simp only [ho] at h
    split
    · rename_i hw
      rw [if_pos hw] at h
      exact h.imp Oper.wp_withLast id
    · rename_i hw
      rw [if_neg hw] at h
      exact h

def anyS (P : Program) (md : Region.Mode) (ops : Array Oper) (Q : Exit → Act → World → Prop) (E : World → World → Prop) (s : Nat) : Nat → Array Bool → Act → World → Prop
  | 0, listed, a, w => Region.ready md ops listed = [] ∧ Q .normal a w
  | fuel + 1, listed, a, w =>
    (Region.ready md ops listed = [] → Q .normal a w) ∧
    ∀ i ∈ Region.ready md ops listed, wpOp P ops Q i (fun a' w' => (i ≠ s → E w w') ∧ anyS P md ops Q E s fuel (listed.setIfInBounds i true) a' w') a w
theorem wpAny_of_anyS : ∀ (fuel : Nat) (listed : Array Bool) (a : Act) (w : World), anyS P md ops Q E s fuel listed a w → wpAny P md ops Q fuel listed a w
  | 0, _, _, _, h => h
  | fuel + 1, _, _, _, h => ⟨h.1, fun i hi => wpOp_mono (fun a' w' h' => wpAny_of_anyS fuel _ a' w' h'.2) (h.2 i hi)⟩

/-- Does s stand behind i? -/
def behind (md : Region.Mode) (ops : Array Oper) (s i : Nat) : Bool := match ops[s]? with | some o => o.after.toList.any fun e => Region.binds md e && e.on == i | none => false
theorem behind_spec {i : Nat} (h : behind md ops s i = true) {o : Oper} (ho : ops[s]? = some o) : ∃ e ∈ o.after, Region.binds md e = true ∧ e.on = i := by
  unfold behind at h
  rw [ho] at h
  simp only [List.any_eq_true, Bool.and_eq_true, beq_iff_eq] at h
  obtain ⟨e, he, h1, h2⟩ := h
  exact ⟨e, by simpa using he, h1, h2⟩

theorem anyS_first {i : Nat} {oi : Oper} {v : Value} (hrf : ∀ w, E w w) (htr : ∀ x y z, E x y → E y z → E x z) (hi : ops[i]? = some oi) (hsel : ∀ (j : Nat) (o : Oper) cs b, ops[j]? = some o → o.op ≠ .select cs b)
    (hQ : ∀ c a w, Q (.panic c) (a.put oi.dst v) w → Q (.panic c) a w) (hbe : behind md ops s i = true) :
    ∀ (fuel : Nat) (listed : Array Bool) (a : Act) (w : World),
      (∀ j oj, ops[j]? = some oj → j ≠ i → listed.getD j true = false → (∀ e ∈ oj.after, Region.binds md e = true → e.on ≠ i) → oi.apart ops oj = true) →
      i ∈ Region.ready md ops listed → YieldsIf P ops (E w) oi v a →
      anyS P md ops Q E s fuel (listed.setIfInBounds i true) (a.put oi.dst v) w → anyS P md ops Q E s (fuel + 1) listed a w := by
  intro fuel
  induction fuel with
  | zero =>
    intro listed a w _ hr hy H
    refine ⟨fun h => (by rw [h] at hr; cases hr), fun j hj => ?_⟩
    by_cases hji : j = i
    · subst hji; exact hy.wpOp hi (hrf w) ⟨fun _ => hrf w, H⟩
    · have := ready_mono hj hji
      rw [H.1] at this
      cases this
  | succ fuel ih =>
    intro listed a w hfree hr hy H
    refine ⟨fun h => (by rw [h] at hr; cases hr), fun j hj => ?_⟩
    by_cases hji : j = i
    · subst hji; exact hy.wpOp hi (hrf w) ⟨fun _ => hrf w, H⟩
    · have h1 := H.2 j (ready_mono hj hji)
      obtain ⟨hjun, oj, hoj, hall⟩ := mem_ready.1 hj
      have hnot : ∀ e ∈ oj.after, Region.binds md e = true → e.on ≠ i := fun e he hb heq => by
        have h1 := hall e he hb
        have h0 := (mem_ready.1 hr).1
        rw [heq] at h1
        rcases Nat.lt_or_ge i listed.size with h' | h'
        · simp [h'] at h0 h1; rw [h0] at h1; cases h1
        · simp [Array.getElem?_eq_none h'] at h1
      have hjs : j ≠ s := fun e => by
        subst e
        obtain ⟨x, hx1, hx2, hx3⟩ := behind_spec hbe hoj
        exact hnot x hx1 hx2 hx3
      have h2 := wpOp_putIf hoj (hfree j oj hoj hji hjun hnot) (fun cs b => hsel i oi cs b hi) (fun cs b => hsel j oj cs b hoj) hQ hy h1
      have hfree' : ∀ k ok, ops[k]? = some ok → k ≠ i → (listed.setIfInBounds j true).getD k true = false →
          (∀ e ∈ ok.after, Region.binds md e = true → e.on ≠ i) → oi.apart ops ok = true := fun k ok hk hki hun hno => by
        refine hfree k ok hk hki ?_ hno
        by_cases hjk : j = k
        · subst hjk; exact hjun
        · rw [getD_set_ne true hjk] at hun; exact hun
      refine wpOp_mono (fun a' w' h3 => ⟨fun _ => h3.2.1 hjs, ih (listed.setIfInBounds j true) a' w' hfree' (ready_mono hr (Ne.symm hji)) (yieldsE_mono h3.1 fun W hW => htr _ _ _ (h3.2.1 hjs) hW) ?_⟩) h2
      rw [Array.setIfInBounds_comm _ _ hji]
      exact h3.2.2

def okL (md : Region.Mode) (ops : Array Oper) (s : Nat) : List (Nat × Bool) → Array Bool → Bool
  | [], listed => Region.ready md ops listed == [s] && Region.ready md ops (listed.setIfInBounds s true) == []
  | (i, b) :: σ, listed => (if b then (Region.ready md ops listed).contains i && Region.free md ops listed i && behind md ops s i else Region.ready md ops listed == [i] && i != s) && okL md ops s σ (listed.setIfInBounds i true)

theorem anyS_of_sch (hrf : ∀ w, E w w) (htr : ∀ x y z, E x y → E y z → E x z) (hs : Region.noSelect ops = true) (hQ : ∀ c a d v w, Q (.panic c) (Act.put a d v) w → Q (.panic c) a w) :
    ∀ (σ : List (Nat × Bool)) (listed : Array Bool) (a : Act) (w : World), okL md ops s σ listed = true → wpSch P ops (withLast P ops Q s) E σ a w → anyS P md ops Q E s (σ.length + 1) listed a w := by
  intro σ
  induction σ with
  | nil =>
    intro listed a w hok h
    simp only [okL, Bool.and_eq_true, beq_iff_eq] at hok
    refine ⟨fun h0 => (by rw [h0] at hok; cases hok.1), fun j hj => ?_⟩
    rw [hok.1, List.mem_singleton] at hj
    subst hj
    exact wpOp_mono (fun a' w' h' => ⟨fun hne => absurd rfl hne, hok.2, h'⟩) h
  | cons x σ ih =>
    obtain ⟨i, b⟩ := x
    intro listed a w hok h
    simp only [okL, Bool.and_eq_true] at hok
    obtain ⟨hok1, hok2⟩ := hok
    cases b with
    | true =>
      simp only [if_true, Bool.and_eq_true] at hok1
      simp only [wpSch, if_true] at h
      obtain ⟨o, v, hi, hy, h⟩ := h
      exact anyS_first hrf htr hi (Region.noSelect_spec hs) (fun c a w => hQ c a _ _ w) hok1.2 (σ.length + 1) listed a w (Region.free_spec hi hok1.1.2) (by simpa using hok1.1.1) hy (ih _ _ _ hok2 h)
    | false =>
      simp only [Bool.false_eq_true, if_false, Bool.and_eq_true, beq_iff_eq] at hok1
      have hr : Region.ready md ops listed = [i] := hok1.1
      simp only [wpSch, Bool.false_eq_true, if_false] at h
      refine ⟨fun h0 => (by rw [h0] at hr; cases hr), fun j hj => ?_⟩
      rw [hr, List.mem_singleton] at hj
      subst hj
      exact wpOp_mono (fun a' w' h' => ⟨fun _ => h'.1, ih _ _ _ hok2 h'.2⟩) (wpOp_withLast h)

/-- THE BEGINNING: the region, by the order σ, and s last. -/
theorem region_schL {id : Nat} {a : Act} {w : World} (s : Nat) (σ : List (Nat × Bool)) (hm : P.follows .mixedOrders = true) (hrf : ∀ w, E w w) (htr : ∀ x y z, E x y → E y z → E x z)
    (hQ : ∀ c a d v w, Q (.panic c) (Act.put a d v) w → Q (.panic c) a w) (hok : (Region.noSelect ops && σ.length + 1 == ops.size && okL .any ops s σ (Array.replicate ops.size false)) = true)
    (h : ∀ ops', ops' = ops → wpSch P ops' (withLast P ops' Q s) E σ a w.drew) : (Code.region id ops true).wp P Q a w := by
  replace h := h ops rfl
  simp only [Bool.and_eq_true, beq_iff_eq] at hok
  obtain ⟨⟨h1, h2⟩, h3⟩ := hok
  refine wp_region_any hm (wpAny_of_anyS (E := E) (s := s) _ _ _ _ ?_)
  rw [← h2] at h3 ⊢
  exact anyS_of_sch hrf htr h1 hQ σ _ _ _ h3 h
/-- The last operation, where it is a store. -/
theorem schL_store {o : Oper} {a : Act} {w w' : World} (hi : ops[s]? = some o) (hw : Region.wanted o (yielded ops a.tmps) = true) (ty : TypeId) (x y : Operand) (ho : o.op = .store ty x y)
    (vx vy : Value) (hx : a.eval x = vx) (hy : a.eval y = vy) (hr : (Instr.storeAt ty vx vy).run P w = .ok () w') (h : Q .normal (a.put o.dst undef) w') : wpSch P ops (withLast P ops Q s) E [] a w := by
  show wpOp P ops Q s (fun a' w' => Q .normal a' w') a w
  unfold wpOp
  simp only [hi, hw, if_true]
  refine .inl ?_
  unfold Oper.wp execOp
  subst hx hy
  simp only [ho, Sem.run_bind, Sem.run_pure, Result.andThen_ok, hr]
  exact h
end
end Go.Proofs.YtihljjfnjclefaaDoor
/- A region whose order is open: two operations may come up in either order (a tree of orders), and a tail of operations stands behind all others. -/
set_option linter.unusedVariables false
set_option linter.unusedSimpArgs false
namespace Go.Proofs.YtihljjfnjclefaaDoor

/-- What follows an order: nothing; or two orders, the one or the other. -/
inductive Alt where
  | leaf : Alt
  | two (σ₁ : List (Nat × Bool)) (T₁ : Alt) (σ₂ : List (Nat × Bool)) (T₂ : Alt) : Alt
  | three (σ₁ : List (Nat × Bool)) (T₁ : Alt) (σ₂ : List (Nat × Bool)) (T₂ : Alt) (σ₃ : List (Nat × Bool)) (T₃ : Alt) : Alt
section
variable {P : Program} {ops : Array Oper} {Q : Exit → Act → World → Prop} {md : Region.Mode} {E : World → World → Prop}

/-- Whatever may be done to the world. -/
def anyW (_ _ : World) : Prop := True
/-- Behind the others N. -/
def exitTo (Q : Exit → Act → World → Prop) (N : Act → World → Prop) : Exit → Act → World → Prop
  | .normal, a, w => N a w
  | e, a, w => Q e a w
def contN (P : Program) (ops : Array Oper) (Q : Exit → Act → World → Prop) (E : World → World → Prop) (σB : List (Nat × Bool)) : Alt → Act → World → Prop
  | .leaf => wpSch P ops Q anyW σB
  | .two σ₁ T₁ σ₂ T₂ => fun a w => wpSch P ops (exitTo Q (contN P ops Q E σB T₁)) E σ₁ a w ∧ wpSch P ops (exitTo Q (contN P ops Q E σB T₂)) E σ₂ a w
  | .three σ₁ T₁ σ₂ T₂ σ₃ T₃ => fun a w => wpSch P ops (exitTo Q (contN P ops Q E σB T₁)) E σ₁ a w ∧ wpSch P ops (exitTo Q (contN P ops Q E σB T₂)) E σ₂ a w ∧ wpSch P ops (exitTo Q (contN P ops Q E σB T₃)) E σ₃ a w
theorem Oper.wp_exitTo {o : Oper} {a : Act} {w : World} {K N : Act → World → Prop} (h : o.wp P a w K (exitTo Q N)) : o.wp P a w K Q := by
  unfold Oper.wp at *
  generalize (execOp a.eval o).run P w = r at *
  cases r with
  | ok n w' => cases n <;> exact h
  | halt x w' => cases x <;> exact h
theorem wpOp_exitTo {i : Nat} {a : Act} {w : World} {K N : Act → World → Prop} (h : wpOp P ops (exitTo Q N) i K a w) : wpOp P ops Q i K a w := by
  unfold wpOp at *
  split
  · simpa [*] using h
  · rename_i o ho
    simp only [ho] at h
    split
    · rename_i hw
      rw [if_pos hw] at h
      exact h.imp Oper.wp_exitTo id
    · rename_i hw
      rw [if_neg hw] at h
      exact h

def anyB (P : Program) (md : Region.Mode) (ops : Array Oper) (Q : Exit → Act → World → Prop) (E : World → World → Prop) (B : Nat → Bool) : Nat → Array Bool → Act → World → Prop
  | 0, listed, a, w => Region.ready md ops listed = [] ∧ Q .normal a w
  | fuel + 1, listed, a, w =>
    (Region.ready md ops listed = [] → Q .normal a w) ∧
    ∀ i ∈ Region.ready md ops listed, wpOp P ops Q i (fun a' w' => (B i = false → E w w') ∧ anyB P md ops Q E B fuel (listed.setIfInBounds i true) a' w') a w
theorem wpAny_of_anyB {B : Nat → Bool} : ∀ (fuel : Nat) (listed : Array Bool) (a : Act) (w : World), anyB P md ops Q E B fuel listed a w → wpAny P md ops Q fuel listed a w
  | 0, _, _, _, h => h
  | fuel + 1, _, _, _, h => ⟨h.1, fun i hi => wpOp_mono (fun a' w' h' => wpAny_of_anyB fuel _ a' w' h'.2) (h.2 i hi)⟩

theorem anyB_first {B : Nat → Bool} {i : Nat} {oi : Oper} {v : Value} (hrf : ∀ w, E w w) (htr : ∀ x y z, E x y → E y z → E x z) (hi : ops[i]? = some oi) (hsel : ∀ (j : Nat) (o : Oper) cs b, ops[j]? = some o → o.op ≠ .select cs b)
    (hQ : ∀ c a w, Q (.panic c) (a.put oi.dst v) w → Q (.panic c) a w) (hbe : ∀ t, B t = true → behind md ops t i = true) :
    ∀ (fuel : Nat) (listed : Array Bool) (a : Act) (w : World),
      (∀ j oj, ops[j]? = some oj → j ≠ i → listed.getD j true = false → (∀ e ∈ oj.after, Region.binds md e = true → e.on ≠ i) → oi.apart ops oj = true) →
      i ∈ Region.ready md ops listed → YieldsIf P ops (E w) oi v a →
      anyB P md ops Q E B fuel (listed.setIfInBounds i true) (a.put oi.dst v) w → anyB P md ops Q E B (fuel + 1) listed a w := by
  intro fuel
  induction fuel with
  | zero =>
    intro listed a w _ hr hy H
    refine ⟨fun h => (by rw [h] at hr; cases hr), fun j hj => ?_⟩
    by_cases hji : j = i
    · subst hji; exact hy.wpOp hi (hrf w) ⟨fun _ => hrf w, H⟩
    · have := ready_mono hj hji
      rw [H.1] at this
      cases this
  | succ fuel ih =>
    intro listed a w hfree hr hy H
    refine ⟨fun h => (by rw [h] at hr; cases hr), fun j hj => ?_⟩
    by_cases hji : j = i
    · subst hji; exact hy.wpOp hi (hrf w) ⟨fun _ => hrf w, H⟩
    · have h1 := H.2 j (ready_mono hj hji)
      obtain ⟨hjun, oj, hoj, hall⟩ := mem_ready.1 hj
      have hnot : ∀ e ∈ oj.after, Region.binds md e = true → e.on ≠ i := fun e he hb heq => by
        have h1 := hall e he hb
        have h0 := (mem_ready.1 hr).1
        rw [heq] at h1
        rcases Nat.lt_or_ge i listed.size with h' | h'
        · simp [h'] at h0 h1; rw [h0] at h1; cases h1
        · simp [Array.getElem?_eq_none h'] at h1
      have hjs : B j = false := by
        cases hB : B j with
        | false => rfl
        | true =>
          obtain ⟨x, hx1, hx2, hx3⟩ := behind_spec (hbe j hB) hoj
          exact absurd hx3 (hnot x hx1 hx2)
      have h2 := wpOp_putIf hoj (hfree j oj hoj hji hjun hnot) (fun cs b => hsel i oi cs b hi) (fun cs b => hsel j oj cs b hoj) hQ hy h1
      have hfree' : ∀ k ok, ops[k]? = some ok → k ≠ i → (listed.setIfInBounds j true).getD k true = false →
          (∀ e ∈ ok.after, Region.binds md e = true → e.on ≠ i) → oi.apart ops ok = true := fun k ok hk hki hun hno => by
        refine hfree k ok hk hki ?_ hno
        by_cases hjk : j = k
        · subst hjk; exact hjun
        · rw [getD_set_ne true hjk] at hun; exact hun
      refine wpOp_mono (fun a' w' h3 => ⟨fun _ => h3.2.1 hjs, ih (listed.setIfInBounds j true) a' w' hfree' (ready_mono hr (Ne.symm hji)) (yieldsE_mono h3.1 fun W hW => htr _ _ _ (h3.2.1 hjs) hW) ?_⟩) h2
      rw [Array.setIfInBounds_comm _ _ hji]
      exact h3.2.2

def inB (σB : List (Nat × Bool)) (t : Nat) : Bool := σB.any fun p => p.1 == t
def okB (md : Region.Mode) (ops : Array Oper) (σB : List (Nat × Bool)) : Nat → List (Nat × Bool) → Alt → Array Bool → Bool
  | n, [], .leaf, l => n == σB.length && okS md ops σB l && (List.range ops.size).all fun i => l.getD i true || inB σB i
  | n + 1, (i, b) :: σ, T, l => (if b then (Region.ready md ops l).contains i && Region.free md ops l i && σB.all fun p => behind md ops p.1 i else Region.ready md ops l == [i]) && okB md ops σB n σ T (l.setIfInBounds i true)
  | n + 1, [], .two ((i, false) :: σ₁) T₁ ((j, false) :: σ₂) T₂, l => Region.ready md ops l == [i, j] && okB md ops σB n σ₁ T₁ (l.setIfInBounds i true) && okB md ops σB n σ₂ T₂ (l.setIfInBounds j true)
  | n + 1, [], .three ((i, false) :: σ₁) T₁ ((j, false) :: σ₂) T₂ ((k, false) :: σ₃) T₃, l => Region.ready md ops l == [i, j, k] && okB md ops σB n σ₁ T₁ (l.setIfInBounds i true) && okB md ops σB n σ₂ T₂ (l.setIfInBounds j true) && okB md ops σB n σ₃ T₃ (l.setIfInBounds k true)
  | _, _, _, _ => false

theorem ready_lt {l : Array Bool} {i : Nat} (h : i ∈ Region.ready md ops l) : i < ops.size ∧ l.getD i true = false := by
  obtain ⟨h1, o, h2, -⟩ := mem_ready.1 h
  exact ⟨(Array.getElem?_eq_some_iff.1 h2).1, h1⟩
theorem anyB_of_anyE {B : Nat → Bool} : ∀ (fuel : Nat) (listed : Array Bool) (a : Act) (w : World), (∀ i, i < ops.size → listed.getD i true = false → B i = true) → anyE P md ops Q anyW fuel listed a w → anyB P md ops Q E B fuel listed a w
  | 0, _, _, _, _, h => h
  | fuel + 1, listed, _, _, hB, h => ⟨h.1, fun i hi => wpOp_mono (fun a' w' h' => ⟨fun hb => (by
      have := hB i (ready_lt hi).1 (ready_lt hi).2
      rw [this] at hb; cases hb), anyB_of_anyE fuel _ a' w' (fun j hj hun => by
        refine hB j hj ?_
        by_cases e : i = j
        · subst e; exact (ready_lt hi).2
        · rw [getD_set_ne true e] at hun; exact hun) h'.2⟩) (h.2 i hi)⟩
theorem anyB_of_sch (hrf : ∀ w, E w w) (htr : ∀ x y z, E x y → E y z → E x z) (hs : Region.noSelect ops = true) (hQ : ∀ c a d v w, Q (.panic c) (Act.put a d v) w → Q (.panic c) a w) (σB : List (Nat × Bool)) :
    ∀ (n : Nat) (σ : List (Nat × Bool)) (T : Alt) (listed : Array Bool) (a : Act) (w : World), okB md ops σB n σ T listed = true → wpSch P ops (exitTo Q (contN P ops Q E σB T)) E σ a w → anyB P md ops Q E (inB σB) n listed a w := by
  have leaf : ∀ (n : Nat) (listed : Array Bool) (a : Act) (w : World), (n == σB.length && okS md ops σB listed && (List.range ops.size).all fun i => listed.getD i true || inB σB i) = true → wpSch P ops Q anyW σB a w → anyB P md ops Q E (inB σB) n listed a w := by
    intro n listed a w hok h
    simp only [Bool.and_eq_true, beq_iff_eq, List.all_eq_true, List.mem_range, Bool.or_eq_true] at hok
    obtain ⟨⟨rfl, h2⟩, h3⟩ := hok
    refine anyB_of_anyE _ _ _ _ (fun i hi hun => (h3 i hi).resolve_left (by rw [hun]; simp)) (anyE_of_sch (E := anyW) (fun _ => trivial) (fun _ _ _ _ _ => trivial) hs hQ σB listed a w h2 h)
  intro n
  induction n with
  | zero =>
    intro σ T listed a w hok h
    cases σ with
    | nil =>
      cases T with
      | leaf => simp only [okB] at hok; exact leaf 0 listed a w hok h
      | two => simp [okB] at hok
      | three => simp [okB] at hok
    | cons x σ => simp [okB] at hok
  | succ n ih =>
    intro σ T listed a w hok h
    cases σ with
    | nil =>
      cases T with
      | leaf => simp only [okB] at hok; exact leaf (n + 1) listed a w hok h
      | two σ₁ T₁ σ₂ T₂ =>
        match σ₁, σ₂, hok, h with
        | (i, false) :: σ₁, (j, false) :: σ₂, hok, h =>
          simp only [okB, Bool.and_eq_true, beq_iff_eq] at hok
          obtain ⟨⟨hr, h1⟩, h2⟩ := hok
          simp only [wpSch, exitTo, contN, Bool.false_eq_true, if_false] at h
          refine ⟨fun h0 => (by rw [h0] at hr; cases hr), fun k hk => ?_⟩
          rw [hr] at hk
          simp only [List.mem_cons, List.not_mem_nil, or_false] at hk
          rcases hk with rfl | rfl
          · exact wpOp_mono (fun a' w' h' => ⟨fun _ => h'.1, ih _ _ _ _ _ h1 h'.2⟩) (wpOp_exitTo h.1)
          · exact wpOp_mono (fun a' w' h' => ⟨fun _ => h'.1, ih _ _ _ _ _ h2 h'.2⟩) (wpOp_exitTo h.2)
        | [], _, hok, _ => simp [okB] at hok
        | (_, true) :: _, _, hok, _ => simp [okB] at hok
        | (_, false) :: _, [], hok, _ => simp [okB] at hok
        | (_, false) :: _, (_, true) :: _, hok, _ => simp [okB] at hok
      | three σ₁ T₁ σ₂ T₂ σ₃ T₃ =>
        match σ₁, σ₂, σ₃, hok, h with
        | (i, false) :: σ₁, (j, false) :: σ₂, (l, false) :: σ₃, hok, h =>
          simp only [okB, Bool.and_eq_true, beq_iff_eq] at hok
          obtain ⟨⟨⟨hr, h1⟩, h2⟩, h3⟩ := hok
          simp only [wpSch, exitTo, contN, Bool.false_eq_true, if_false] at h
          refine ⟨fun h0 => (by rw [h0] at hr; cases hr), fun k hk => ?_⟩
          rw [hr] at hk
          simp only [List.mem_cons, List.not_mem_nil, or_false] at hk
          rcases hk with rfl | rfl | rfl
          · exact wpOp_mono (fun a' w' h' => ⟨fun _ => h'.1, ih _ _ _ _ _ h1 h'.2⟩) (wpOp_exitTo h.1)
          · exact wpOp_mono (fun a' w' h' => ⟨fun _ => h'.1, ih _ _ _ _ _ h2 h'.2⟩) (wpOp_exitTo h.2.1)
          · exact wpOp_mono (fun a' w' h' => ⟨fun _ => h'.1, ih _ _ _ _ _ h3 h'.2⟩) (wpOp_exitTo h.2.2)
        | [], _, _, hok, _ => simp [okB] at hok
        | (_, true) :: _, _, _, hok, _ => simp [okB] at hok
        | (_, false) :: _, [], _, hok, _ => simp [okB] at hok
        | (_, false) :: _, (_, true) :: _, _, hok, _ => simp [okB] at hok
        | (_, false) :: _, (_, false) :: _, [], hok, _ => simp [okB] at hok
        | (_, false) :: _, (_, false) :: _, (_, true) :: _, hok, _ => simp [okB] at hok
    | cons x σ =>
      obtain ⟨i, b⟩ := x
      have hok' : ((if b then (Region.ready md ops listed).contains i && Region.free md ops listed i && σB.all fun p => behind md ops p.1 i else Region.ready md ops listed == [i]) && okB md ops σB n σ T (listed.setIfInBounds i true)) = true := by
        cases T <;> simpa only [okB] using hok
      simp only [Bool.and_eq_true] at hok'
      obtain ⟨hok1, hok2⟩ := hok'
      cases b with
      | true =>
        simp only [if_true, Bool.and_eq_true, List.all_eq_true] at hok1
        simp only [wpSch, if_true] at h
        obtain ⟨o, v, hi, hy, h⟩ := h
        refine anyB_first hrf htr hi (Region.noSelect_spec hs) (fun c a w => hQ c a _ _ w) (fun t ht => ?_) n listed a w (Region.free_spec hi hok1.1.2) (by simpa using hok1.1.1) hy (ih _ _ _ _ _ hok2 h)
        unfold inB at ht
        simp only [List.any_eq_true, beq_iff_eq] at ht
        obtain ⟨p, hp, rfl⟩ := ht
        exact hok1.2 p hp
      | false =>
        have hr : Region.ready md ops listed = [i] := by simpa using hok1
        simp only [wpSch, Bool.false_eq_true, if_false] at h
        refine ⟨fun h0 => (by rw [h0] at hr; cases hr), fun j hj => ?_⟩
        rw [hr, List.mem_singleton] at hj
        subst hj
        exact wpOp_mono (fun a' w' h' => ⟨fun _ => h'.1, ih _ _ _ _ _ hok2 h'.2⟩) (wpOp_exitTo h)

/-- What holds in every world may be taken ahead of all. -/
theorem anyB_pure {B : Nat → Bool} {i : Nat} {oi : Oper} {v : Value} (hrf : ∀ w, E w w) (hi : ops[i]? = some oi) (hsel : ∀ (j : Nat) (o : Oper) cs b, ops[j]? = some o → o.op ≠ .select cs b)
    (hQ : ∀ c a w, Q (.panic c) (a.put oi.dst v) w → Q (.panic c) a w) :
    ∀ (fuel : Nat) (listed : Array Bool) (a : Act) (w : World),
      (∀ j oj, ops[j]? = some oj → j ≠ i → listed.getD j true = false → (∀ e ∈ oj.after, Region.binds md e = true → e.on ≠ i) → oi.apart ops oj = true) →
      i ∈ Region.ready md ops listed → YieldsIf P ops (fun _ => True) oi v a →
      anyB P md ops Q E B fuel (listed.setIfInBounds i true) (a.put oi.dst v) w → anyB P md ops Q E B (fuel + 1) listed a w := by
  intro fuel
  induction fuel with
  | zero =>
    intro listed a w _ hr hy H
    refine ⟨fun h => (by rw [h] at hr; cases hr), fun j hj => ?_⟩
    by_cases hji : j = i
    · subst hji; exact hy.wpOp hi trivial ⟨fun _ => hrf w, H⟩
    · have := ready_mono hj hji
      rw [H.1] at this
      cases this
  | succ fuel ih =>
    intro listed a w hfree hr hy H
    refine ⟨fun h => (by rw [h] at hr; cases hr), fun j hj => ?_⟩
    by_cases hji : j = i
    · subst hji; exact hy.wpOp hi trivial ⟨fun _ => hrf w, H⟩
    · have h1 := H.2 j (ready_mono hj hji)
      obtain ⟨hjun, oj, hoj, hall⟩ := mem_ready.1 hj
      have hnot : ∀ e ∈ oj.after, Region.binds md e = true → e.on ≠ i := fun e he hb heq => by
        have h1 := hall e he hb
        have h0 := (mem_ready.1 hr).1
        rw [heq] at h1
        rcases Nat.lt_or_ge i listed.size with h' | h'
        · simp [h'] at h0 h1; rw [h0] at h1; cases h1
        · simp [Array.getElem?_eq_none h'] at h1
      have h2 := wpOp_putIf hoj (hfree j oj hoj hji hjun hnot) (fun cs b => hsel i oi cs b hi) (fun cs b => hsel j oj cs b hoj) hQ hy h1
      have hfree' : ∀ k ok, ops[k]? = some ok → k ≠ i → (listed.setIfInBounds j true).getD k true = false →
          (∀ e ∈ ok.after, Region.binds md e = true → e.on ≠ i) → oi.apart ops ok = true := fun k ok hk hki hun hno => by
        refine hfree k ok hk hki ?_ hno
        by_cases hjk : j = k
        · subst hjk; exact hjun
        · rw [getD_set_ne true hjk] at hun; exact hun
      refine wpOp_mono (fun a' w' h3 => ⟨h3.2.1, ih (listed.setIfInBounds j true) a' w' hfree' (ready_mono hr (Ne.symm hji)) h3.1 ?_⟩) h2
      rw [Array.setIfInBounds_comm _ _ hji]
      exact h3.2.2
def okC (md : Region.Mode) (ops : Array Oper) (σB : List (Nat × Bool)) : Nat → List (Nat × Bool) → List (Nat × Bool) → Alt → Array Bool → Bool
  | n, [], σ, T, l => okB md ops σB n σ T l
  | n + 1, (i, true) :: σ₀, σ, T, l => (Region.ready md ops l).contains i && Region.free md ops l i && okC md ops σB n σ₀ σ T (l.setIfInBounds i true)
  | _, _, _, _, _ => false
theorem anyB_of_pre (hrf : ∀ w, E w w) (htr : ∀ x y z, E x y → E y z → E x z) (hs : Region.noSelect ops = true) (hQ : ∀ c a d v w, Q (.panic c) (Act.put a d v) w → Q (.panic c) a w) (σB σ : List (Nat × Bool)) (T : Alt) :
    ∀ (n : Nat) (σ₀ : List (Nat × Bool)) (listed : Array Bool) (a : Act) (w : World), okC md ops σB n σ₀ σ T listed = true → wpSch P ops (exitTo Q (wpSch P ops (exitTo Q (contN P ops Q E σB T)) E σ)) anyW σ₀ a w → anyB P md ops Q E (inB σB) n listed a w := by
  intro n σ₀
  induction σ₀ generalizing n with
  | nil =>
    intro listed a w hok h
    exact anyB_of_sch hrf htr hs hQ σB n σ T listed a w (by cases n <;> simpa only [okC] using hok) h
  | cons x σ₀ ih =>
    obtain ⟨i, b⟩ := x
    intro listed a w hok h
    cases n with
    | zero => cases b <;> simp [okC] at hok
    | succ n =>
      cases b with
      | false => simp [okC] at hok
      | true =>
        simp only [okC, Bool.and_eq_true] at hok
        simp only [wpSch, if_true] at h
        obtain ⟨o, v, hi, hy, h⟩ := h
        exact anyB_pure hrf hi (Region.noSelect_spec hs) (fun c a w => hQ c a _ _ w) n listed a w (Region.free_spec hi hok.1.2) (by simpa using hok.1.1) (yieldsE_mono hy (fun _ _ => trivial)) (ih n _ _ _ hok.2 h)

/-- THE BEGINNING: the region, first what looks at no memory (σ₀), then the order σ, then the tree T, then the tail σB. -/
theorem region_schB {id : Nat} {a : Act} {w : World} (σ₀ σ : List (Nat × Bool)) (T : Alt) (σB : List (Nat × Bool)) (hm : P.follows .mixedOrders = true) (hrf : ∀ w, E w w) (htr : ∀ x y z, E x y → E y z → E x z)
    (hQ : ∀ c a d v w, Q (.panic c) (Act.put a d v) w → Q (.panic c) a w) (hok : (Region.noSelect ops && okC .any ops σB ops.size σ₀ σ T (Array.replicate ops.size false)) = true)
    (h : ∀ ops', ops' = ops → wpSch P ops' (exitTo Q (wpSch P ops' (exitTo Q (contN P ops' Q E σB T)) E σ)) anyW σ₀ a w.drew) : (Code.region id ops true).wp P Q a w := by
  replace h := h ops rfl
  simp only [Bool.and_eq_true] at hok
  exact wp_region_any hm (wpAny_of_anyB (E := E) (B := inB σB) _ _ _ _ (anyB_of_pre hrf htr hok.1 hQ σB σ T _ _ _ _ _ hok.2 h))
theorem schB_pre {N : Act → World → Prop} {a : Act} {w : World} (h : N a w) : exitTo Q N .normal a w := h
/-- A store into a cell, in the tail. -/
theorem sch_store {i : Nat} {σ : List (Nat × Bool)} {o : Oper} {a : Act} {w : World} (hi : ops[i]? = some o) (hw : Region.wanted o (yielded ops a.tmps) = true) (ty : TypeId) (x y : Operand) (ho : o.op = .store ty x y) (hd : o.dst = none)
    (p : Addr) (v : Value) (hx : a.eval x = .pointer (some p)) (hy : a.eval y = v) (hr : (Instr.storeAt ty (.pointer (some p)) v).run P w = .ok () (w.setCell p v)) (hE : E w (w.setCell p v)) (h : wpSch P ops Q E σ a (w.setCell p v)) : wpSch P ops Q E ((i, false) :: σ) a w := by
  refine sch_eff hi hw fun K hK => ?_
  unfold Oper.wp execOp
  simp only [ho, Sem.run_bind, Sem.run_pure, Result.andThen_ok, hx, hy, hr]
  refine hK _ _ hE ?_
  rw [hd]; exact h
theorem schB_leaf {σB : List (Nat × Bool)} {a : Act} {w : World} (h : wpSch P ops Q anyW σB a w) : exitTo Q (contN P ops Q E σB .leaf) .normal a w := h
theorem schB_three {σB σ₁ σ₂ σ₃ : List (Nat × Bool)} {T₁ T₂ T₃ : Alt} {a : Act} {w : World} (h₁ : wpSch P ops (exitTo Q (contN P ops Q E σB T₁)) E σ₁ a w) (h₂ : wpSch P ops (exitTo Q (contN P ops Q E σB T₂)) E σ₂ a w) (h₃ : wpSch P ops (exitTo Q (contN P ops Q E σB T₃)) E σ₃ a w) : exitTo Q (contN P ops Q E σB (.three σ₁ T₁ σ₂ T₂ σ₃ T₃)) .normal a w := ⟨h₁, h₂, h₃⟩
theorem schB_two {σB σ₁ σ₂ : List (Nat × Bool)} {T₁ T₂ : Alt} {a : Act} {w : World} (h₁ : wpSch P ops (exitTo Q (contN P ops Q E σB T₁)) E σ₁ a w) (h₂ : wpSch P ops (exitTo Q (contN P ops Q E σB T₂)) E σ₂ a w) : exitTo Q (contN P ops Q E σB (.two σ₁ T₁ σ₂ T₂)) .normal a w := ⟨h₁, h₂⟩
end
end Go.Proofs.YtihljjfnjclefaaDoor
/- Bytes copied into a row of the call's own. -/
set_option linter.unusedVariables false
set_option linter.unusedSimpArgs false
namespace Go.Proofs.YtihljjfnjclefaaDoor
open Go.ChangeShapes Go.WideShapes Go.ChangeAt Go.RowKit

theorem cp_len {b xs : List Byte} {off : Nat} (h : off + xs.length ≤ b.length) : (splice b off xs).length = b.length := length_splice b off xs h
theorem cp_take {α : Type} (L cs : List α) (off n : Nat) (h : off + cs.length ≤ n) (hL : off ≤ L.length) : (L.take off ++ cs ++ L.drop (off + cs.length)).take n = (L.take n).take off ++ (cs ++ (L.take n).drop (off + cs.length)) := by
  have h1 : (L.take off).length = off := by rw [List.length_take]; omega
  rw [List.append_assoc, List.take_append, List.take_append, h1, List.take_of_length_le (by omega : (L.take off).length ≤ n), List.take_of_length_le (by omega : cs.length ≤ n - off), List.take_take, Nat.min_eq_left (by omega), List.drop_take]
  congr 3
  omega
theorem cp_vbs (b xs : List Byte) (off : Nat) : vbs (splice b off xs) = (vbs b).take off ++ (vbs xs ++ (vbs b).drop (off + xs.length)) := by
  unfold splice
  rw [vbs_append, vbs_append, vbs_take, vbs_drop]
theorem TB.cp (g : Nat) (w : World) (cs : Array Value) : TB g w (w.setRow g cs) := ⟨rfl, rfl, rfl, by simp, fun k _ hk => setRow_other w g k cs (fun e => hk (by simp [e]))⟩
theorem cp_run {w : World} {base gb m c : Nat} {b : List Byte} (ho : Own w base (.slice (some ⟨gb, 0, none⟩) m c) b) (off d e : Nat) (A : Option Addr) (ca : Nat) (xs : List Byte) (hr : Rd w A xs) (hx : xs.length ≤ d) (hfit : off + xs.length ≤ b.length) :
    ∃ w', (∀ ty, (Builtin.copy_ #[23, 23] ty #[.slice (some ⟨gb, off, none⟩) d e, .slice A xs.length ca]).run Tryd.prog w = .ok (goInt xs.length) w') ∧ Own w' base (.slice (some ⟨gb, 0, none⟩) m c) (splice b off xs) ∧ TB gb w w' := by
  obtain ⟨i, hi, _, hsz, _⟩ := info_parts info_u8
  have hsz1 : (Tryd.prog.info? 5).map (·.size) = some 1 := by rw [hi]; simp [hsz]
  by_cases h0 : xs.length = 0
  · obtain rfl : xs = [] := List.eq_nil_of_length_eq_zero h0
    refine ⟨w, fun ty => run_copy_none (P := Tryd.prog) w _ _ ty _ _ _ _ _ _ _ Tryd.underlying23 hsz1 (by simp), ?_, TB.refl _ _⟩
    have : splice b off [] = b := by simp [splice]
    rw [this]; exact ho
  · obtain ⟨b0, o0, rfl, hb0, hcell⟩ := hr.form (by omega)
    have hO := ho
    unfold Own OwnV at ho
    rcases ho with ⟨l1, ⟨l2, -⟩ | ⟨g, cap, cur, l3, l4, l5, l6, l7, l8, l9⟩⟩
    · cases l2
    · simp only [Value.slice.injEq, Option.some.injEq, Addr.mk.injEq] at l3
      obtain ⟨⟨rfl, -, -⟩, hm, rfl⟩ := l3
      rw [vbs_length] at l1 l6 l9 hm
      rw [Nat.mul_one] at l1 l8 l9
      have hcl : b.length ≤ cur.size := by omega
      have hrun := fun ty => run_copy_row (P := Tryd.prog) w 23 23 ty 5 gb off d e ⟨b0, o0, none⟩ xs.length ca cur 5 (vbs xs) Tryd.underlying23 hsz1 l5 (by rw [vbs_length]; exact (Nat.min_eq_left hx).symm) (fun j v hj => by
        have hjl : j < xs.length := by
          have := (List.getElem?_eq_some_iff.1 hj).1
          rwa [vbs_length] at this
        have : (⟨b0, o0, none⟩ : Addr).add j = ⟨b0, o0 + j, none⟩ := by unfold Addr.add; split <;> simp_all
        rw [this, hcell j hjl]
        rw [vbs_get? xs j hjl] at hj
        exact hj) (by rw [vbs_length]; omega) (vbs_oneCell xs)
      simp only [vbs_length] at hrun
      refine ⟨_, hrun, ?_, TB.cp _ _ _⟩
      have hrow := setRow_heap w gb cur (cur.toList.take off ++ vbs xs ++ cur.toList.drop (off + xs.length)).toArray _ _ l5
      unfold Own OwnV
      rw [vbs_length, cp_len hfit]
      refine ⟨by rw [vbs_length, cp_len hfit]; omega, .inr ⟨gb, c, _, by rw [hm], l4, hrow, by omega, l7, ?_, ?_⟩⟩
      · simp only [List.size_toArray, List.length_append, List.length_take, List.length_drop, vbs_length, Array.length_toList]
        omega
      · have hst := cp_take cur.toList (vbs xs) off b.length (by rw [vbs_length]; exact hfit) (by rw [Array.length_toList]; omega)
        rw [vbs_length] at hst
        rw [Nat.mul_one]
        rw [hst, l9, cp_vbs]
/-- 'copy(x, y)' at the operation; as a step of a region that draws. -/
theorem cp_list {P : Program} {ops : Array Oper} {rest : List Oper} {o : Oper} {a : Act} {w : World} {Q : Exit → Act → World → Prop} (hgd : o.guard = none) (x y : Operand) (t t' : TypeId)
    (ho : o.op = .call { callee := .builtin .copy, args := #[x, y], argTypes := #[t, t'] }) (v u : Value) (hx : a.eval x = v) (hy : a.eval y = u) {v' : Value} {w' : World}
    (hr : ∀ ty, (Builtin.copy_ #[t, t'] ty #[v, u]).run P w = .ok v' w') (h : wpList P ops Q rest (a.put o.dst v') w') : wpList P ops Q (o :: rest) a w :=
  wpList_plain hgd fun _ hK => by
    unfold Oper.wp execOp
    simp only [ho, resolve, invoke, builtin, Sem.run_bind, Sem.run_pure, Result.andThen_ok, List.map_toArray, List.map_cons, List.map_nil, hx, hy, hr]
    exact hK _ _ h
theorem cp_sch {P : Program} {ops : Array Oper} {Q : Exit → Act → World → Prop} {E : World → World → Prop} {i : Nat} {σ : List (Nat × Bool)} {o : Oper} {a : Act} {w w' : World} (hi : ops[i]? = some o) (hw : Region.wanted o (yielded ops a.tmps) = true)
    (x y : Operand) (t t' : TypeId) (ho : o.op = .call { callee := .builtin .copy, args := #[x, y], argTypes := #[t, t'] }) (v u : Value) (hx : a.eval x = v) (hy : a.eval y = u) {v' : Value}
    (hr : ∀ ty, (Builtin.copy_ #[t, t'] ty #[v, u]).run P w = .ok v' w') (hE : E w w') (h : wpSch P ops Q E σ (a.put o.dst v') w') : wpSch P ops Q E ((i, false) :: σ) a w :=
  sch_eff hi hw fun K hK => by
    unfold Oper.wp execOp
    simp only [ho, resolve, invoke, builtin, Sem.run_bind, Sem.run_pure, Result.andThen_ok, List.map_toArray, List.map_cons, List.map_nil, hx, hy, hr]
    exact hK _ _ hE h
end Go.Proofs.YtihljjfnjclefaaDoor
/- Checksums, in plain Lean: the table, a step, the sum. No program in sight. -/
set_option linter.unusedVariables false
set_option linter.unusedSimpArgs false
namespace Go.Proofs.YtihljjfnjclefaaDoor

/-- One bit of the table's word. -/
def crcBit (x : BitVec 32) : BitVec 32 := if x &&& 1#32 = 1#32 then (x >>> 1) ^^^ 0x82f63b78#32 else x >>> 1
def crcBits : Nat → BitVec 32 → BitVec 32
  | 0, x => x
  | n + 1, x => crcBit (crcBits n x)
/-- The table's word of a number. -/
def crcWord (i : Nat) : BitVec 32 := crcBits 8 (BitVec.ofNat 32 i)
/-- Behind a byte. -/
def crcStep (t : Byte → BitVec 32) (s : BitVec 32) (b : Byte) : BitVec 32 := t (s.setWidth 8 ^^^ b) ^^^ s >>> 8
def crcOn (t : Byte → BitVec 32) (s : BitVec 32) (xs : List Byte) : BitVec 32 := ~~~ (xs.foldl (crcStep t) (~~~ s))
def crcT (b : Byte) : BitVec 32 := crcWord b.toNat
def crcSum (xs : List Byte) : BitVec 32 := crcOn crcT 0#32 xs

/-- Cells that hold a table of 256 words. -/
def IsTab (T : Array Value) (t : Byte → BitVec 32) : Prop := T.size = 256 ∧ ∀ b : Byte, T[(nb b).toNat]? = some (.int .u32 (nb (t b)))

end Go.Proofs.YtihljjfnjclefaaDoor
