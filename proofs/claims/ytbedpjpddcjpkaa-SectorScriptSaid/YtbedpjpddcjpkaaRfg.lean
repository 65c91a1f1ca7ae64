/- The reference's disk: the walk through Write. -/
import Derived.Test.YtbedpjpddcjpkaaRff
set_option linter.unusedVariables false
set_option linter.unusedSimpArgs false
namespace Go.Proofs.Ytbedpjpddcjpkaa
open Go.ChangeShapes Go.WideShapes Go.ChangeAt Go.RowKit Go.MapKept
set_option maxRecDepth 100000

theorem oneCell_of {V : List (Int × Value)} {w : World} {F ctl : List Nat} {M : List (Int × List Byte)} (h : Vals w F ctl V M) : ∀ u ∈ V.map (·.2), u.oneCell' = true := by
  induction h with
  | nil => intro u hu; cases hu
  | cons hr h1 h2 hb ht ih =>
    intro u hu
    simp only [List.map_cons, List.mem_cons] at hu
    rcases hu with rfl | hu
    · rfl
    · exact ih u hu
theorem ts_grown {w w' : World} {A : Option Addr} {n c : Nat} (h : w.grownBy w' (Value.slice A n c).ownBlock) : TS (optBlk A) w w' :=
  ⟨h.os, h.tape, h.output, h.size, fun x hx hn => h.block x hx (fun e => hn (own_out e.symm))⟩
section
variable {w w' : World} {F F' : List Nat} {g n gb c : Nat} {NA : Option Addr} {nc : Nat} {CA : Option Addr} {cc : Nat} {V : List (Int × Value)} {D : DiskSt}
theorem RD.disj (h : RD w F g n gb c NA nc CA cc V D) : (∀ x ∈ optBlk NA, x ∉ optBlk CA) ∧ g ∉ optBlk NA ∧ g ∉ optBlk CA ∧ gb ∉ optBlk NA ∧ gb ∉ optBlk CA ∧ g ≠ gb := by
  have hnd := h.nodup
  simp only [rctl, List.cons_append, List.nil_append, List.nodup_cons, List.mem_cons, List.mem_append, not_or, List.nodup_append] at hnd
  obtain ⟨⟨a1, a2, a3⟩, ⟨b1, b2⟩, d1, d2, d3⟩ := hnd
  exact ⟨fun x hx hy => d3 x hx x hy rfl, a2, a3, b1, b2, a1⟩
/-- The cached bytes of a sector replaced. -/
theorem RD.replaced (h : RD w F g n gb c NA nc CA cc V D) {i : Nat} {k : Int} {x y : List Byte} (hi : D.M[i]? = some (k, x)) (hy : y.length = 512) {A : Option Addr} {ca : Nat} (hr : Rd w A y) (h2 : 512 ≤ ca) (h3 : ca ≤ maxLen) (hA : ∀ ad, A = some ad → ad.block < w.heap.size ∧ ad.block ∉ F)
    {cb : Nat} (hcb : CA = some ⟨cb, 0, none⟩) : ∃ F', (∀ x ∈ F', x ∈ F ∨ x ∈ optBlk A) ∧ RD (w.setCell ⟨cb, i, none⟩ (.slice A 512 ca)) F' g n gb c NA nc CA cc (V.set i (k, .slice A 512 ca)) { D with M := D.M.set i (k, y) } ∧ TS F w (w.setCell ⟨cb, i, none⟩ (.slice A 512 ca)) := by
  obtain ⟨cb', A0, ca0, hc, -, -, -, -, -, -, hrow⟩ := h.at hi
  rw [hcb] at hc
  cases hc
  have hcF : cb ∈ F := h.mem cb (by rw [hcb]; simp [rctl, optBlk])
  obtain ⟨d1, d2, d3, d4, d5, d6⟩ := h.disj
  have hcC : cb ∈ optBlk CA := by rw [hcb]; simp [optBlk]
  have htb : TB cb w (w.setCell ⟨cb, i, none⟩ (.slice A 512 ca)) := TB.set w i _
  have hts : TS [cb] w (w.setCell ⟨cb, i, none⟩ (.slice A 512 ca)) := TS.tb htb (by simp)
  have hAC : ∀ ad, A = some ad → ad.block ∉ rctl g gb NA CA := fun ad ha hm => (hA ad ha).2 (h.mem _ hm)
  have hsel := h.ok.M _ (List.mem_of_getElem? hi)
  refine ⟨optBlk A ++ F, fun y hy => by simp only [List.mem_append] at hy; exact hy.symm, ⟨?_, ?_, ?_, ?_, ?_, h.nodup, fun x hx => by simp [h.mem x hx], ?_, ⟨h.ok.len, h.ok.n1, h.ok.n2, fun p hp => ?_, h.ok.f⟩, ?_⟩, TS.tb htb hcF⟩
  · rw [hts.block g (Array.getElem?_eq_some_iff.1 h.row).1 (by simp only [List.mem_singleton]; rintro rfl; exact d3 hcC)]
    simp only [List.length_set]
    exact h.row
  · exact hts.ownV h.bytes (fun b hb => by cases hb; simp only [List.mem_singleton]; rintro rfl; exact d5 hcC)
  · have := hts.ownV h.keys (fun b hb => by simp only [List.mem_singleton]; rintro rfl; exact d1 _ (own_out hb) hcC)
    simp only [List.length_set]
    rw [show (D.M.set i (k, y)).map (fun p => Value.int .i64 p.1) = D.M.map (fun p => Value.int .i64 p.1) from by
      apply List.ext_getElem?
      intro j
      simp only [List.getElem?_map, List.getElem?_set]
      by_cases e : i = j
      · subst e
        rw [if_pos rfl, if_pos (List.getElem?_eq_some_iff.1 hi).1, hi]; rfl
      · rw [if_neg e]]
    exact this
  · have := hrow (.slice A 512 ca)
    simp only [List.length_set, List.map_set]
    exact this
  · have hv := h.vals.move (F' := optBlk A ++ F) (ctl' := rctl g gb NA CA) (fun A' x' hr' hb => hts.rd hr' (fun ad ha hm => (hb ad ha).2 (by simp only [List.mem_singleton] at hm; rw [hm]; rw [hcb]; simp [rctl, optBlk]))) (fun b hb hb' => ⟨by simp [hb], hb'⟩)
    have := hv.setAt k (A := A) (c := ca) (y := y) (hts.rd hr (fun ad ha hm => (hA ad ha).2 (by simp only [List.mem_singleton] at hm; rw [hm]; exact hcF))) (by omega) h3 (fun ad ha => ⟨by simp [optBlk, ha], hAC ad ha⟩) i
    rw [hy] at this
    exact this
  · intro x hx
    simp only [List.mem_append] at hx
    rcases hx with hx | hx
    · cases A with
      | none => cases hx
      | some ad =>
        simp only [optBlk, Option.toList_some, List.map_cons, List.map_nil, List.mem_singleton] at hx
        subst hx
        exact Nat.lt_of_lt_of_le (hA ad rfl).1 hts.size
    · exact Nat.lt_of_lt_of_le (h.lt x hx) hts.size
  · rcases List.mem_or_eq_of_mem_set hp with hp | rfl
    · exact h.ok.M p hp
    · exact ⟨hsel.1, hsel.2.1, hy⟩
  · have : (D.M.set i (k, y)).map (·.1) = D.M.map (·.1) := by
      apply List.ext_getElem?
      intro j
      simp only [List.getElem?_map, List.getElem?_set]
      by_cases e : i = j
      · subst e
        rw [if_pos rfl, if_pos (List.getElem?_eq_some_iff.1 hi).1, hi]; rfl
      · rw [if_neg e]
    rw [this]; exact h.nd
/-- A sector more in the cache: both lists made longer, and laid into the disk. -/
theorem RD.grow {wA wB wC wD : World} {NA' CA' A : Option Addr} {nc' cc' ca : Nat} {k : Int} {y : List Byte} (h : RD w F g n gb c NA nc CA cc V D) (f1 : FB w wA)
    (hoN : OwnV 3 wB 0 (.slice NA' (D.M.length + 1) nc') ((D.M.map fun p => .int .i64 p.1) ++ [.int .i64 k])) (hgN : wA.grownBy wB (Value.slice NA D.M.length nc).ownBlock) (hlN : (Value.slice NA' (D.M.length + 1) nc').ownBlock = (Value.slice NA D.M.length nc).ownBlock ∨ (Value.slice NA' (D.M.length + 1) nc').ownBlock = some wA.heap.size)
    (f2 : FB wB wC) (hoC : OwnV 34 wD 0 (.slice CA' (D.M.length + 1) cc') (V.map (·.2) ++ [.slice A 512 ca])) (hgC : wC.grownBy wD (Value.slice CA D.M.length cc).ownBlock) (hlC : (Value.slice CA' (D.M.length + 1) cc').ownBlock = (Value.slice CA D.M.length cc).ownBlock ∨ (Value.slice CA' (D.M.length + 1) cc').ownBlock = some wC.heap.size)
    (hk0 : 0 ≤ k) (hkn : k < n) (hno : cget D.M k = none) (hy : y.length = 512) (hr : Rd w A y) (h2 : 512 ≤ ca) (h3 : ca ≤ maxLen) (hA : ∀ ad, A = some ad → ad.block < w.heap.size ∧ ad.block ∉ F) :
    ∃ F', (∀ x ∈ F', x ∈ F ∨ x ∈ optBlk A ∨ w.heap.size ≤ x) ∧ RD ((wD.setCell ⟨g, 1, none⟩ (.slice NA' (D.M.length + 1) nc')).setCell ⟨g, 2, none⟩ (.slice CA' (D.M.length + 1) cc')) F' g n gb c NA' nc' CA' cc' (V ++ [(k, .slice A 512 ca)]) { D with M := D.M ++ [(k, y)] } ∧ TS F w ((wD.setCell ⟨g, 1, none⟩ (.slice NA' (D.M.length + 1) nc')).setCell ⟨g, 2, none⟩ (.slice CA' (D.M.length + 1) cc')) := by
  obtain ⟨d1, d2, d3, d4, d5, d6⟩ := h.disj
  have tN := ts_grown hgN
  have tC := ts_grown hgC
  have hsA := f1.le
  have hsB := tN.size
  have hsC := f2.le
  have hsD := tC.size
  have tAll : TS (optBlk NA ++ optBlk CA) w wD := by
    have t1 : TS (optBlk NA ++ optBlk CA) w wA := TS.of f1
    have t2 : TS (optBlk NA ++ optBlk CA) w wB := t1.trans tN (fun x hx => .inl (by simp [hx]))
    have t3 : TS (optBlk NA ++ optBlk CA) w wC := t2.then (TS.of f2)
    exact t3.trans tC (fun x hx => .inl (by simp [hx]))
  have ltF : ∀ x ∈ rctl g gb NA CA, x < w.heap.size := fun x hx => h.lt x (h.mem x hx)
  have eN : ∀ x ∈ optBlk NA', x ∈ optBlk NA ∨ x = wA.heap.size := by
    intro x hx
    cases NA' with
    | none => cases hx
    | some ad =>
      simp only [optBlk, Option.toList_some, List.map_cons, List.map_nil, List.mem_singleton] at hx
      subst hx
      rcases hlN with e | e
      · exact .inl (own_out e.symm)
      · exact .inr (by simpa [Value.ownBlock] using e)
  have eC : ∀ x ∈ optBlk CA', x ∈ optBlk CA ∨ x = wC.heap.size := by
    intro x hx
    cases CA' with
    | none => cases hx
    | some ad =>
      simp only [optBlk, Option.toList_some, List.map_cons, List.map_nil, List.mem_singleton] at hx
      subst hx
      rcases hlC with e | e
      · exact .inl (own_out e.symm)
      · exact .inr (by simpa [Value.ownBlock] using e)
  have lN : ∀ x ∈ optBlk NA, x < w.heap.size := fun x hx => ltF x (by simp [rctl, hx])
  have lC : ∀ x ∈ optBlk CA, x < w.heap.size := fun x hx => ltF x (by simp [rctl, hx])
  have lg := ltF g (by simp [rctl])
  have lgb := ltF gb (by simp [rctl])
  have bN : ∀ x ∈ optBlk NA', x < wB.heap.size := fun x hx => by
    cases NA' with
    | none => cases hx
    | some ad =>
      simp only [optBlk, Option.toList_some, List.map_cons, List.map_nil, List.mem_singleton] at hx
      subst hx
      exact (OwnV.base hoN ad.block rfl).2
  have bC : ∀ x ∈ optBlk CA', x < wD.heap.size := fun x hx => by
    cases CA' with
    | none => cases hx
    | some ad =>
      simp only [optBlk, Option.toList_some, List.map_cons, List.map_nil, List.mem_singleton] at hx
      subst hx
      exact (OwnV.base hoC ad.block rfl).2
  have gN : g ∉ optBlk NA' := fun hm => by rcases eN g hm with h' | h' <;> first | exact d2 h' | omega
  have gC : g ∉ optBlk CA' := fun hm => by rcases eC g hm with h' | h' <;> first | exact d3 h' | omega
  have gbN : gb ∉ optBlk NA' := fun hm => by rcases eN gb hm with h' | h' <;> first | exact d4 h' | omega
  have gbC : gb ∉ optBlk CA' := fun hm => by rcases eC gb hm with h' | h' <;> first | exact d5 h' | omega
  have dNC : ∀ x ∈ optBlk NA', x ∉ optBlk CA' := fun x hx hy' => by
    have := bN x hx
    rcases eC x hy' with h1 | h1
    · rcases eN x hx with h' | h'
      · exact d1 x h' h1
      · have := lC x h1; omega
    · omega
  have hs1 : TS [g] wD (wD.setCell ⟨g, 1, none⟩ (.slice NA' (D.M.length + 1) nc')) := TS.tb (TB.set wD 1 _) (by simp)
  have hs2 : TS [g] (wD.setCell ⟨g, 1, none⟩ (.slice NA' (D.M.length + 1) nc')) ((wD.setCell ⟨g, 1, none⟩ (.slice NA' (D.M.length + 1) nc')).setCell ⟨g, 2, none⟩ (.slice CA' (D.M.length + 1) cc')) := TS.tb (TB.set _ 2 _) (by simp)
  have hs := hs1.then hs2
  have hrowD := (tAll.block g lg (by simp [d2, d3])).trans h.row
  have hrow1 := heap_setCell_same wD g 1 _ _ (.slice NA' (D.M.length + 1) nc') hrowD
  have hrow2 := heap_setCell_same _ g 2 _ _ (.slice CA' (D.M.length + 1) cc') hrow1
  have hN1 : OwnV 3 wD 0 (.slice NA' (D.M.length + 1) nc') ((D.M.map fun p => .int .i64 p.1) ++ [.int .i64 k]) := by
    have k1 := (TS.of (F := []) f2).ownV hoN (by simp)
    exact tC.ownV k1 (fun b hb hm => by
      have h1 := bN b (own_out hb)
      rcases eN b (own_out hb) with h' | h'
      · exact d1 b h' hm
      · have := lC b hm; omega)
  have hAF : ∀ ad, A = some ad → ad.block ∉ rctl g gb NA' CA' := fun ad ha hm => by
    have h1 := hA ad ha
    simp only [rctl, List.cons_append, List.nil_append, List.mem_cons, List.mem_append] at hm
    rcases hm with e | e | e | e
    · exact h1.2 (h.mem _ (by simp [rctl, e]))
    · exact h1.2 (h.mem _ (by simp [rctl, e]))
    · rcases eN _ e with e | e
      · exact h1.2 (h.mem _ (by simp [rctl, e]))
      · omega
    · rcases eC _ e with e | e
      · exact h1.2 (h.mem _ (by simp [rctl, e]))
      · omega
  refine ⟨optBlk NA' ++ (optBlk CA' ++ (optBlk A ++ F)), fun x hx => ?_, ⟨?_, ?_, ?_, ?_, ?_, ?_, ?_, ?_, ?_, ?_⟩, ?_⟩
  · simp only [List.mem_append] at hx
    rcases hx with hx | hx | hx | hx
    · rcases eN x hx with e | e
      · exact .inl (h.mem x (by simp [rctl, e]))
      · exact .inr (.inr (by omega))
    · rcases eC x hx with e | e
      · exact .inl (h.mem x (by simp [rctl, e]))
      · exact .inr (.inr (by omega))
    · exact .inr (.inl hx)
    · exact .inl hx
  · rw [hrow2]
    simp only [List.length_append, List.length_cons, List.length_nil]
    rfl
  · exact hs.ownV (tAll.ownV h.bytes (fun b hb => by cases hb; simp [d4, d5])) (fun b hb => by cases hb; simp only [List.mem_singleton]; exact fun e => d6 e.symm)
  · simp only [List.length_append, List.length_cons, List.length_nil, List.map_append, List.map_cons, List.map_nil]
    exact hs.ownV hN1 (fun b hb => by simp only [List.mem_singleton]; rintro rfl; exact gN (own_out hb))
  · simp only [List.length_append, List.length_cons, List.length_nil, List.map_append, List.map_cons, List.map_nil]
    exact hs.ownV hoC (fun b hb => by simp only [List.mem_singleton]; rintro rfl; exact gC (own_out hb))
  · have mv : ∀ (A' : Option Addr) (x' : List Byte), Rd w A' x' → (∀ ad, A' = some ad → ad.block ∉ rctl g gb NA CA) → Rd ((wD.setCell ⟨g, 1, none⟩ (.slice NA' (D.M.length + 1) nc')).setCell ⟨g, 2, none⟩ (.slice CA' (D.M.length + 1) cc')) A' x' := fun A' x' hr' hb =>
      hs.rd (tAll.rd hr' (fun ad ha hm => hb ad ha (by simp only [List.mem_append] at hm; simp [rctl, hm]))) (fun ad ha hm => hb ad ha (by simp only [List.mem_singleton] at hm; simp [rctl, hm]))
    have hv := h.vals.move (F' := optBlk NA' ++ (optBlk CA' ++ (optBlk A ++ F))) (ctl' := rctl g gb NA' CA') (fun A' x' hr' hb => mv A' x' hr' (fun ad ha => (hb ad ha).2)) (fun b hb hb' => ⟨by simp [hb], fun hm => by
      have hlb := h.lt b hb
      simp only [rctl, List.cons_append, List.nil_append, List.mem_cons, List.mem_append, not_or] at hm hb'
      rcases hm with e | e | e | e
      · exact hb'.1 e
      · exact hb'.2.1 e
      · rcases eN b e with e | e
        · exact hb'.2.2.1 e
        · omega
      · rcases eC b e with e | e
        · exact hb'.2.2.2 e
        · omega⟩)
    have := hv.snoc k (A := A) (c := ca) (y := y) (mv A y hr (fun ad ha hm => (hA ad ha).2 (h.mem _ hm))) (by omega) h3 (fun ad ha => ⟨by simp [optBlk, ha], hAF ad ha⟩)
    rw [hy] at this
    exact this
  · simp only [rctl, List.cons_append, List.nil_append, List.nodup_cons, List.mem_cons, List.mem_append, not_or, List.nodup_append]
    exact ⟨⟨d6, gN, gC⟩, ⟨gbN, gbC⟩, by cases NA' <;> simp [optBlk], by cases CA' <;> simp [optBlk], fun a ha b hb e => dNC a ha (e ▸ hb)⟩
  · intro x hx
    simp only [rctl, List.cons_append, List.nil_append, List.mem_cons, List.mem_append] at hx ⊢
    rcases hx with e | e | e | e
    · exact .inr (.inr (.inr (h.mem x (by simp [rctl, e]))))
    · exact .inr (.inr (.inr (h.mem x (by simp [rctl, e]))))
    · exact .inl e
    · exact .inr (.inl e)
  · intro x hx
    simp only [List.mem_append] at hx
    have := hs.size
    rcases hx with hx | hx | hx | hx
    · have := bN x hx; omega
    · have := bC x hx; omega
    · cases A with
      | none => cases hx
      | some ad =>
        simp only [optBlk, Option.toList_some, List.map_cons, List.map_nil, List.mem_singleton] at hx
        subst hx
        have := (hA ad rfl).1; omega
    · have := h.lt x hx; omega
  · exact ⟨h.ok.len, h.ok.n1, h.ok.n2, fun p hp => by
      rcases List.mem_append.1 hp with hp | hp
      · exact h.ok.M p hp
      · simp only [List.mem_singleton] at hp; subst hp; exact ⟨hk0, hkn, hy⟩, h.ok.f⟩
  · simp only [List.map_append, List.map_cons, List.map_nil]
    rw [List.nodup_append]
    refine ⟨h.nd, by simp, fun a ha b hb e => ?_⟩
    simp only [List.mem_singleton] at hb
    obtain ⟨p, hp, rfl⟩ := List.mem_map.1 ha
    obtain ⟨j, hj⟩ := List.getElem?_of_mem hp
    exact cget_none_at hno j p hj (by rw [e, hb])
  · have t1 : TS F w wD := ⟨tAll.os, tAll.tape, tAll.output, tAll.size, fun x hx hn => tAll.block x hx (fun hm => hn (by
      simp only [List.mem_append] at hm
      exact h.mem x (by simp [rctl, hm])))⟩
    exact t1.trans hs (fun x hx => .inl (by simp only [List.mem_singleton] at hx; rw [hx]; exact h.mem g (by simp [rctl])))
end
end Go.Proofs.Ytbedpjpddcjpkaa
