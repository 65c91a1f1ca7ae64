/- A region whose order is open, walked in one order of the prover's choice: what only reads is taken as soon as it may come up, what makes memory or calls comes up alone. No program in sight.
   E w w': what one step of the region may do to the world (a preorder: 'nothing that was there has turned'). -/
import Derived.Test.YtoidlmhebnlnbaaM
set_option linter.unusedVariables false
set_option linter.unusedSimpArgs false
namespace Go.Proofs.Ytoidlmhebnlnbaa

section
variable {P : Program} {ops : Array Oper} {Q : Exit → Act → World → Prop} {md : Region.Mode} {E : World → World → Prop}

/-- Whatever order is picked, and each step does to the world what E allows. -/
def anyE (P : Program) (md : Region.Mode) (ops : Array Oper) (Q : Exit → Act → World → Prop) (E : World → World → Prop) : Nat → Array Bool → Act → World → Prop
  | 0, listed, a, w => Region.ready md ops listed = [] ∧ Q .normal a w
  | fuel + 1, listed, a, w =>
    (Region.ready md ops listed = [] → Q .normal a w) ∧
    ∀ i ∈ Region.ready md ops listed, wpOp P ops Q i (fun a' w' => E w w' ∧ anyE P md ops Q E fuel (listed.setIfInBounds i true) a' w') a w
theorem wpAny_of_anyE : ∀ (fuel : Nat) (listed : Array Bool) (a : Act) (w : World), anyE P md ops Q E fuel listed a w → wpAny P md ops Q fuel listed a w
  | 0, _, _, _, h => h
  | fuel + 1, _, _, _, h => ⟨h.1, fun i hi => wpOp_mono (fun a' w' h' => wpAny_of_anyE fuel _ a' w' h'.2) (h.2 i hi)⟩

theorem yieldsE_mono {S S' : World → Prop} {o : Oper} {v : Value} {a : Act} (h : YieldsIf P ops S o v a) (hs : ∀ w, S' w → S w) : YieldsIf P ops S' o v a :=
  h.imp (fun ⟨h1, h2⟩ => ⟨h1, fun w hw => h2 w (hs w hw)⟩) id

/-- An operation that yields its value in every world that may come from the one at hand may be taken first. -/
theorem anyE_first {i : Nat} {oi : Oper} {v : Value} (hrf : ∀ w, E w w) (htr : ∀ x y z, E x y → E y z → E x z) (hi : ops[i]? = some oi) (hsel : ∀ (j : Nat) (o : Oper) cs b, ops[j]? = some o → o.op ≠ .select cs b)
    (hQ : ∀ c a w, Q (.panic c) (a.put oi.dst v) w → Q (.panic c) a w) :
    ∀ (fuel : Nat) (listed : Array Bool) (a : Act) (w : World),
      (∀ j oj, ops[j]? = some oj → j ≠ i → listed.getD j true = false → (∀ e ∈ oj.after, Region.binds md e = true → e.on ≠ i) → oi.apart ops oj = true) →
      i ∈ Region.ready md ops listed → YieldsIf P ops (E w) oi v a →
      anyE P md ops Q E fuel (listed.setIfInBounds i true) (a.put oi.dst v) w → anyE P md ops Q E (fuel + 1) listed a w := by
  intro fuel
  induction fuel with
  | zero =>
    intro listed a w _ hr hy H
    refine ⟨fun h => (by rw [h] at hr; cases hr), fun j hj => ?_⟩
    by_cases hji : j = i
    · subst hji; exact hy.wpOp hi (hrf w) ⟨hrf w, H⟩
    · have := ready_mono hj hji
      rw [H.1] at this
      cases this
  | succ fuel ih =>
    intro listed a w hfree hr hy H
    refine ⟨fun h => (by rw [h] at hr; cases hr), fun j hj => ?_⟩
    by_cases hji : j = i
    · subst hji; exact hy.wpOp hi (hrf w) ⟨hrf w, H⟩
    · have h1 := H.2 j (ready_mono hj hji)
      obtain ⟨hjun, oj, hoj, hall⟩ := mem_ready.1 hj
      have hnot : ∀ e ∈ oj.after, Region.binds md e = true → e.on ≠ i := fun e he hb heq => by
        have h1 := hall e he hb
        have h0 := (mem_ready.1 hr).1
        rw [heq] at h1
        rcases Nat.lt_or_ge i listed.size with h' | h'
        · simp [h'] at h0 h1; rw [h0] at h1; cases h1
        · simp [Array.getElem?_eq_none h'] at h1
      have h2 := wpOp_putIf hoj (hfree j oj hoj hji hjun hnot) (fun cs b => hsel i oi cs b hi) (fun cs b => hsel j oj cs b hoj) hQ hy h1
      have hfree' : ∀ k ok, ops[k]? = some ok → k ≠ i → (listed.setIfInBounds j true).getD k true = false →
          (∀ e ∈ ok.after, Region.binds md e = true → e.on ≠ i) → oi.apart ops ok = true := fun k ok hk hki hun hno => by
        refine hfree k ok hk hki ?_ hno
        by_cases hjk : j = k
        · subst hjk; exact hjun
        · rw [getD_set_ne true hjk] at hun; exact hun
      refine wpOp_mono (fun a' w' h3 => ⟨h3.2.1, ih (listed.setIfInBounds j true) a' w' hfree' (ready_mono hr (Ne.symm hji)) (yieldsE_mono h3.1 fun W hW => htr _ _ _ h3.2.1 hW) ?_⟩) h2
      rw [Array.setIfInBounds_comm _ _ hji]
      exact h3.2.2

/-- Is this list an order in which the region may be walked? (number, taken first) -/
def okS (md : Region.Mode) (ops : Array Oper) : List (Nat × Bool) → Array Bool → Bool
  | [], listed => Region.ready md ops listed == []
  | (i, b) :: σ, listed => (if b then (Region.ready md ops listed).contains i && Region.free md ops listed i else Region.ready md ops listed == [i]) && okS md ops σ (listed.setIfInBounds i true)

def wpSch (P : Program) (ops : Array Oper) (Q : Exit → Act → World → Prop) (E : World → World → Prop) : List (Nat × Bool) → Act → World → Prop
  | [], a, w => Q .normal a w
  | (i, b) :: σ, a, w => if b then ∃ o v, ops[i]? = some o ∧ YieldsIf P ops (E w) o v a ∧ wpSch P ops Q E σ (a.put o.dst v) w
    else wpOp P ops Q i (fun a' w' => E w w' ∧ wpSch P ops Q E σ a' w') a w

theorem anyE_of_sch (hrf : ∀ w, E w w) (htr : ∀ x y z, E x y → E y z → E x z) (hs : Region.noSelect ops = true) (hQ : ∀ c a d v w, Q (.panic c) (Act.put a d v) w → Q (.panic c) a w) :
    ∀ (σ : List (Nat × Bool)) (listed : Array Bool) (a : Act) (w : World), okS md ops σ listed = true → wpSch P ops Q E σ a w → anyE P md ops Q E σ.length listed a w := by
  intro σ
  induction σ with
  | nil => intro listed a w hok h; exact ⟨by simpa [okS] using hok, h⟩
  | cons x σ ih =>
    obtain ⟨i, b⟩ := x
    intro listed a w hok h
    simp only [okS, Bool.and_eq_true] at hok
    obtain ⟨hok1, hok2⟩ := hok
    cases b with
    | true =>
      simp only [if_true, Bool.and_eq_true] at hok1
      simp only [wpSch, if_true] at h
      obtain ⟨o, v, hi, hy, h⟩ := h
      exact anyE_first hrf htr hi (Region.noSelect_spec hs) (fun c a w => hQ c a _ _ w) σ.length listed a w (Region.free_spec hi hok1.2) (by simpa using hok1.1) hy (ih _ _ _ hok2 h)
    | false =>
      have hr : Region.ready md ops listed = [i] := by simpa using hok1
      simp only [wpSch, Bool.false_eq_true, if_false] at h
      refine ⟨fun h0 => (by rw [h0] at hr; cases hr), fun j hj => ?_⟩
      rw [hr, List.mem_singleton] at hj
      subst hj
      exact wpOp_mono (fun a' w' h' => ⟨h'.1, ih _ _ _ hok2 h'.2⟩) h

/-- THE BEGINNING: the region, by the order σ. -/
theorem region_sch {id : Nat} {a : Act} {w : World} (σ : List (Nat × Bool)) (hm : P.follows .mixedOrders = true) (hrf : ∀ w, E w w) (htr : ∀ x y z, E x y → E y z → E x z)
    (hQ : ∀ c a d v w, Q (.panic c) (Act.put a d v) w → Q (.panic c) a w) (hok : (Region.noSelect ops && σ.length == ops.size && okS .any ops σ (Array.replicate ops.size false)) = true)
    (h : ∀ ops', ops' = ops → wpSch P ops' Q E σ a w.drew) : (Code.region id ops true).wp P Q a w := by
  replace h := h ops rfl
  simp only [Bool.and_eq_true, beq_iff_eq] at hok
  obtain ⟨⟨h1, h2⟩, h3⟩ := hok
  refine wp_region_any hm (wpAny_of_anyE (E := E) _ _ _ _ ?_)
  rw [← h2] at h3 ⊢
  exact anyE_of_sch hrf htr h1 hQ σ _ _ _ h3 h

/-! ### the steps (the region's operations stand behind a name, so that nothing reads them anew at each step: 'ops' = ..') -/
theorem at_of {ops ops' : Array Oper} (h : ops' = ops) {i : Nat} {o : Oper} (hi : ops[i]? = some o) : ops'[i]? = some o := h ▸ hi
theorem sch_take {i : Nat} {σ : List (Nat × Bool)} {o : Oper} {v : Value} {a a' : Act} {w : World} (hi : ops[i]? = some o) (hw : Region.wanted o (yielded ops a.tmps) = true)
    (hy : ∀ W, E w W → (execOp a.eval o).run P W = .ok (.value v) W) (ha : a.put o.dst v = a') (h : wpSch P ops Q E σ a' w) : wpSch P ops Q E ((i, true) :: σ) a w := by
  simp only [wpSch, if_true]
  exact ⟨o, v, hi, .inl ⟨hw, hy⟩, ha ▸ h⟩
theorem sch_skip {i : Nat} {b : Bool} {σ : List (Nat × Bool)} {o : Oper} {a a' : Act} {w : World} (hrf : ∀ w, E w w) (hi : ops[i]? = some o) (hw : Region.wanted o (yielded ops a.tmps) = false)
    (ha : a.put o.dst undef = a') (h : wpSch P ops Q E σ a' w) : wpSch P ops Q E ((i, b) :: σ) a w := by
  subst ha
  cases b with
  | true => simp only [wpSch, if_true]; exact ⟨o, undef, hi, .inr ⟨hw, rfl⟩, h⟩
  | false =>
    simp only [wpSch, Bool.false_eq_true, if_false]
    unfold wpOp
    simp only [hi, hw, Bool.false_eq_true, if_false]
    exact ⟨hrf w, h⟩
theorem sch_eff {i : Nat} {σ : List (Nat × Bool)} {o : Oper} {a : Act} {w : World} (hi : ops[i]? = some o) (hw : Region.wanted o (yielded ops a.tmps) = true)
    (h : ∀ K : Act → World → Prop, (∀ a' w', E w w' → wpSch P ops Q E σ a' w' → K a' w') → o.wp P a w K Q) : wpSch P ops Q E ((i, false) :: σ) a w := by
  simp only [wpSch, Bool.false_eq_true, if_false]
  unfold wpOp
  simp only [hi, hw, if_true]
  exact .inl (h _ fun a' w' h1 h2 => ⟨h1, h2⟩)
/-- A step that makes memory, by its run equation. -/
theorem sch_run {i : Nat} {σ : List (Nat × Bool)} {o : Oper} {v : Value} {a a' : Act} {w w' : World} (hi : ops[i]? = some o) (hw : Region.wanted o (yielded ops a.tmps) = true)
    (hr : (execOp a.eval o).run P w = .ok (.value v) w') (hE : E w w') (ha : a.put o.dst v = a') (h : wpSch P ops Q E σ a' w') : wpSch P ops Q E ((i, false) :: σ) a w :=
  sch_eff hi hw fun K hK => by
    unfold Oper.wp
    rw [hr]
    exact hK _ _ hE (ha ▸ h)
/-- A call of a Go function. -/
theorem sch_call {i : Nat} {σ : List (Nat × Bool)} {o : Oper} {a : Act} {w : World} {f : FuncId} {args : Array Value} (hi : ops[i]? = some o) (hw : Region.wanted o (yielded ops a.tmps) = true)
    (hr : (execOp a.eval o).run P w = .ok (.enter f args) w) (hc : Calls P f args w fun e w' => ∃ v, e = .returned v ∧ E w w' ∧ ∀ a', a.put o.dst v = a' → wpSch P ops Q E σ a' w') : wpSch P ops Q E ((i, false) :: σ) a w :=
  sch_eff hi hw fun K hK => by
    unfold Oper.wp
    rw [hr]
    refine Calls.mono hc fun e w' ⟨v, he, hE, h⟩ => ?_
    subst he
    exact hK _ _ hE (h _ rfl)
/-- A whole array out of its block. -/
theorem sch_loadA {i : Nat} {σ : List (Nat × Bool)} {o : Oper} {a a' : Act} {w : World} (hi : ops[i]? = some o) (hw : Region.wanted o (yielded ops a.tmps) = true) (ty : TypeId) (x : Operand) (ho : o.op = .load ty x)
    (g : Nat) (hx : a.eval x = .pointer (some ⟨g, 0, none⟩)) (t : TypeId) (cs : Array Value) (fr : Nat × Nat) (d : TypeDesc) (hg : ∀ W, E w W → W.heap[g]? = some (.cells cs t fr))
    (hu : P.underlying ty = some d) (hd : (match d with | .struct _ | .array _ _ => true | _ => false) = true) (hs : (P.info? ty).map (·.size) = some cs.size)
    (ha : a.put o.dst (.agg cs) = a') (h : wpSch P ops Q E σ a' w) : wpSch P ops Q E ((i, true) :: σ) a w :=
  sch_take hi hw (fun W hW => by
    unfold execOp
    simp only [ho, hx, Instr.loadAt, Instr.sureAddr, Sem.run_bind, Sem.run_pure, Result.andThen_ok, run_loadVar_row W g t ty cs fr d (hg W hW) hu hd hs]) ha h
/-- 'append(v, x...)' onto a row of the call's own. -/
theorem sch_append {i : Nat} {σ : List (Nat × Bool)} {o : Oper} {a : Act} {w : World} (hi : ops[i]? = some o) (hw : Region.wanted o (yielded ops a.tmps) = true) (s x : Operand) (t e : TypeId) (bytes : Nat) (z : Value)
    (ht : P.underlying t = some (.slice e)) (hinfo : (P.info? e).map (fun i => (i.zero, i.size, i.bytes)) = some (some z, 1, bytes)) (hzs : z.cells.size = 1)
    (ho : o.op = .call { callee := .builtin .append, args := #[s, x], argTypes := #[t, t] })
    (base : Nat) (v : Value) (xs : List Value) (hown : OwnV e w base v xs) (hs : a.eval s = v) (A : Option Addr) (n c : Nat) (ys : List Value) (hn : n = ys.length) (hx : a.eval x = .slice A n c) (hr : RdV w A ys) (h1 : ∀ u ∈ ys, u.oneCell' = true)
    (h63 : xs.length + ys.length ≤ maxLen) (hbytes : (xs.length + ys.length) * bytes ≤ 140737488355328) (hbase : base ≤ w.heap.size)
    (h : ∀ v' w', OwnV e w' base v' (xs ++ ys) → w.grownBy w' v.ownBlock → (v'.ownBlock = v.ownBlock ∨ v'.ownBlock = some w.heap.size) → E w w' ∧ ∀ a', a.put o.dst v' = a' → wpSch P ops Q E σ a' w') : wpSch P ops Q E ((i, false) :: σ) a w := by
  subst hn
  obtain ⟨v', w', hrun, h2, h3, h4⟩ := run_append_any (P := P) w base t o.type e bytes z ht hinfo hzs v xs hown A c ys hr h1 h63 hbytes hbase
  obtain ⟨hE, hk⟩ := h v' w' h2 h3 h4
  refine sch_run hi hw ?_ hE rfl (hk _ rfl)
  unfold execOp
  simp only [ho, resolve, invoke, builtin, Sem.run_bind, Sem.run_pure, Result.andThen_ok, List.map_toArray, List.map_cons, List.map_nil, hs, hx, hrun]
theorem sch_done {a : Act} {w : World} (h : Q .normal a w) : wpSch P ops Q E [] a w := h
end
theorem sch_append_bytes {ops : Array Oper} {Q : Exit → Act → World → Prop} {E : World → World → Prop} {i : Nat} {σ : List (Nat × Bool)} {o : Oper} {a : Act} {w : World} (hi : ops[i]? = some o) (hw : Region.wanted o (yielded ops a.tmps) = true) (s x : Operand)
    (ho : o.op = .call { callee := .builtin .append, args := #[s, x], argTypes := #[29, 29] })
    (base : Nat) (v : Value) (xs : List Byte) (hown : Own w base v xs) (hs : a.eval s = v) (A : Option Addr) (n c : Nat) (ys : List Byte) (hn : n = ys.length) (hx : a.eval x = .slice A n c) (hr : Rd w A ys)
    (hlen : xs.length + ys.length ≤ 140737488355328) (hbase : base ≤ w.heap.size)
    (h : ∀ v' w', Own w' base v' (xs ++ ys) → w.grownBy w' v.ownBlock → (v'.ownBlock = v.ownBlock ∨ v'.ownBlock = some w.heap.size) → E w w' ∧ ∀ a', a.put o.dst v' = a' → wpSch Try.prog ops Q E σ a' w') : wpSch Try.prog ops Q E ((i, false) :: σ) a w :=
  sch_append hi hw s x 29 5 1 (.int .u8 0) Try.underlying29 info_u8 rfl ho base v (vbs xs) hown hs A n c (vbs ys) (by rw [vbs_length]; exact hn) hx hr (vbs_oneCell ys)
    (by rw [vbs_length, vbs_length, maxLen_eq]; omega) (by rw [vbs_length, vbs_length]; omega) hbase (fun v' w' h2 h3 h4 => h v' w' (by unfold Own; rw [vbs_append]; exact h2) h3 h4)

theorem fb_trans (x y z : World) (h : FB x y) (k : FB y z) : FB x z := h.call k

end Go.Proofs.Ytoidlmhebnlnbaa
