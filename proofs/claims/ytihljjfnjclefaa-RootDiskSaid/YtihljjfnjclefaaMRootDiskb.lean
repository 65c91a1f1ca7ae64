/- Walks and laws that the claim's last text stands on, several texts in one file: Rfg, Rfh, Rfi. Under the hypotheses that each theorem states. -/
import Derived.Test.YtihljjfnjclefaaMRta
import Derived.Test.YtihljjfnjclefaaMRtb
import Derived.Test.YtihljjfnjclefaaMRtc
import Derived.Test.YtihljjfnjclefaaMRtd
import Derived.Test.YtihljjfnjclefaaMRte
import Derived.Test.YtihljjfnjclefaaMRtf
import Derived.Test.YtihljjfnjclefaaMRtg
import Derived.Test.YtihljjfnjclefaaMRth
import Derived.Test.YtihljjfnjclefaaMRti
import Derived.Test.YtihljjfnjclefaaMRtj
import Derived.Test.YtihljjfnjclefaaMRtk
import Derived.Test.YtihljjfnjclefaaMRtl
import Derived.Test.YtihljjfnjclefaaMRootDiska
/- The reference's disk: the walk through Write. -/
set_option linter.unusedVariables false
set_option linter.unusedSimpArgs false
namespace Go.Proofs.Ytihljjfnjclefaa
open Go.ChangeShapes Go.WideShapes Go.ChangeAt Go.RowKit Go.MapKept
set_option maxRecDepth 100000

theorem oneCell_of {V : List (Int × Value)} {w : World} {F ctl : List Nat} {M : List (Int × List Byte)} (h : Vals w F ctl V M) : ∀ u ∈ V.map (·.2), u.oneCell' = true := by
  induction h with
  | nil => intro u hu; cases hu
  | cons hr h1 h2 hb ht ih =>
    intro u hu
    simp only [List.map_cons, List.mem_cons] at hu
    rcases hu with rfl | hu
    · rfl
    · exact ih u hu
theorem ts_grown {w w' : World} {A : Option Addr} {n c : Nat} (h : w.grownBy w' (Value.slice A n c).ownBlock) : TS (optBlk A) w w' :=
  ⟨h.os, h.tape, h.output, h.size, fun x hx hn => h.block x hx (fun e => hn (own_out e.symm))⟩
section
variable {w w' : World} {F F' : List Nat} {g n gb c : Nat} {NA : Option Addr} {nc : Nat} {CA : Option Addr} {cc : Nat} {V : List (Int × Value)} {D : DiskSt}
theorem RD.disj (h : RD w F g n gb c NA nc CA cc V D) : (∀ x ∈ optBlk NA, x ∉ optBlk CA) ∧ g ∉ optBlk NA ∧ g ∉ optBlk CA ∧ gb ∉ optBlk NA ∧ gb ∉ optBlk CA ∧ g ≠ gb := by
  have hnd := h.nodup
  simp only [rctl, List.cons_append, List.nil_append, List.nodup_cons, List.mem_cons, List.mem_append, not_or, List.nodup_append] at hnd
  obtain ⟨⟨a1, a2, a3⟩, ⟨b1, b2⟩, d1, d2, d3⟩ := hnd
  exact ⟨fun x hx hy => d3 x hx x hy rfl, a2, a3, b1, b2, a1⟩
/-- The cached bytes of a sector replaced. -/
theorem RD.replaced (h : RD w F g n gb c NA nc CA cc V D) {i : Nat} {k : Int} {x y : List Byte} (hi : D.M[i]? = some (k, x)) (hy : y.length = 512) {A : Option Addr} {ca : Nat} (hr : Rd w A y) (h2 : 512 ≤ ca) (h3 : ca ≤ maxLen) (hA : ∀ ad, A = some ad → ad.block < w.heap.size ∧ ad.block ∉ F)
    {cb : Nat} (hcb : CA = some ⟨cb, 0, none⟩) : ∃ F', (∀ x ∈ F', x ∈ F ∨ x ∈ optBlk A) ∧ RD (w.setCell ⟨cb, i, none⟩ (.slice A 512 ca)) F' g n gb c NA nc CA cc (V.set i (k, .slice A 512 ca)) { D with M := D.M.set i (k, y) } ∧ TS F w (w.setCell ⟨cb, i, none⟩ (.slice A 512 ca)) := by
  obtain ⟨cb', A0, ca0, hc, -, -, -, -, -, -, hrow⟩ := h.at hi
  rw [hcb] at hc
  cases hc
  have hcF : cb ∈ F := h.mem cb (by rw [hcb]; simp [rctl, optBlk])
  obtain ⟨d1, d2, d3, d4, d5, d6⟩ := h.disj
  have hcC : cb ∈ optBlk CA := by rw [hcb]; simp [optBlk]
  have htb : TB cb w (w.setCell ⟨cb, i, none⟩ (.slice A 512 ca)) := TB.set w i _
  have hts : TS [cb] w (w.setCell ⟨cb, i, none⟩ (.slice A 512 ca)) := TS.tb htb (by simp)
  have hAC : ∀ ad, A = some ad → ad.block ∉ rctl g gb NA CA := fun ad ha hm => (hA ad ha).2 (h.mem _ hm)
  have hsel := h.ok.M _ (List.mem_of_getElem? hi)
  refine ⟨optBlk A ++ F, fun y hy => by simp only [List.mem_append] at hy; exact hy.symm, ⟨?_, ?_, ?_, ?_, ?_, h.nodup, fun x hx => by simp [h.mem x hx], ?_, ⟨h.ok.len, h.ok.n1, h.ok.n2, fun p hp => ?_, h.ok.f⟩, ?_⟩, TS.tb htb hcF⟩
  · rw [hts.block g (Array.getElem?_eq_some_iff.1 h.row).1 (by simp only [List.mem_singleton]; rintro rfl; exact d3 hcC)]
    simp only [List.length_set]
    exact h.row
  · exact hts.ownV h.bytes (fun b hb => by cases hb; simp only [List.mem_singleton]; rintro rfl; exact d5 hcC)
  · have := hts.ownV h.keys (fun b hb => by simp only [List.mem_singleton]; rintro rfl; exact d1 _ (own_out hb) hcC)
    simp only [List.length_set]
    rw [show (D.M.set i (k, y)).map (fun p => Value.int .i64 p.1) = D.M.map (fun p => Value.int .i64 p.1) from by
      apply List.ext_getElem?
      intro j
      simp only [List.getElem?_map, List.getElem?_set]
      by_cases e : i = j
      · subst e
        rw [if_pos rfl, if_pos (List.getElem?_eq_some_iff.1 hi).1, hi]; rfl
      · rw [if_neg e]]
    exact this
  · have := hrow (.slice A 512 ca)
    simp only [List.length_set, List.map_set]
    exact this
  · have hv := h.vals.move (F' := optBlk A ++ F) (ctl' := rctl g gb NA CA) (fun A' x' hr' hb => hts.rd hr' (fun ad ha hm => (hb ad ha).2 (by simp only [List.mem_singleton] at hm; rw [hm]; rw [hcb]; simp [rctl, optBlk]))) (fun b hb hb' => ⟨by simp [hb], hb'⟩)
    have := hv.setAt k (A := A) (c := ca) (y := y) (hts.rd hr (fun ad ha hm => (hA ad ha).2 (by simp only [List.mem_singleton] at hm; rw [hm]; exact hcF))) (by omega) h3 (fun ad ha => ⟨by simp [optBlk, ha], hAC ad ha⟩) i
    rw [hy] at this
    exact this
  · intro x hx
    simp only [List.mem_append] at hx
    rcases hx with hx | hx
    · cases A with
      | none => cases hx
      | some ad =>
        simp only [optBlk, Option.toList_some, List.map_cons, List.map_nil, List.mem_singleton] at hx
        subst hx
        exact Nat.lt_of_lt_of_le (hA ad rfl).1 hts.size
    · exact Nat.lt_of_lt_of_le (h.lt x hx) hts.size
  · rcases List.mem_or_eq_of_mem_set hp with hp | rfl
    · exact h.ok.M p hp
    · exact ⟨hsel.1, hsel.2.1, hy⟩
  · have : (D.M.set i (k, y)).map (·.1) = D.M.map (·.1) := by
      apply List.ext_getElem?
      intro j
      simp only [List.getElem?_map, List.getElem?_set]
      by_cases e : i = j
      · subst e
        rw [if_pos rfl, if_pos (List.getElem?_eq_some_iff.1 hi).1, hi]; rfl
      · rw [if_neg e]
    rw [this]; exact h.nd
/-- A sector more in the cache: both lists made longer, and laid into the disk. -/
theorem RD.grow {wA wB wC wD : World} {NA' CA' A : Option Addr} {nc' cc' ca : Nat} {k : Int} {y : List Byte} (h : RD w F g n gb c NA nc CA cc V D) (f1 : FB w wA)
    (hoN : OwnV 3 wB 0 (.slice NA' (D.M.length + 1) nc') ((D.M.map fun p => .int .i64 p.1) ++ [.int .i64 k])) (hgN : wA.grownBy wB (Value.slice NA D.M.length nc).ownBlock) (hlN : (Value.slice NA' (D.M.length + 1) nc').ownBlock = (Value.slice NA D.M.length nc).ownBlock ∨ (Value.slice NA' (D.M.length + 1) nc').ownBlock = some wA.heap.size)
    (f2 : FB wB wC) (hoC : OwnV 22 wD 0 (.slice CA' (D.M.length + 1) cc') (V.map (·.2) ++ [.slice A 512 ca])) (hgC : wC.grownBy wD (Value.slice CA D.M.length cc).ownBlock) (hlC : (Value.slice CA' (D.M.length + 1) cc').ownBlock = (Value.slice CA D.M.length cc).ownBlock ∨ (Value.slice CA' (D.M.length + 1) cc').ownBlock = some wC.heap.size)
    (hk0 : 0 ≤ k) (hkn : k < n) (hno : cget D.M k = none) (hy : y.length = 512) (hr : Rd w A y) (h2 : 512 ≤ ca) (h3 : ca ≤ maxLen) (hA : ∀ ad, A = some ad → ad.block < w.heap.size ∧ ad.block ∉ F) :
    ∃ F', (∀ x ∈ F', x ∈ F ∨ x ∈ optBlk A ∨ w.heap.size ≤ x) ∧ RD ((wD.setCell ⟨g, 1, none⟩ (.slice NA' (D.M.length + 1) nc')).setCell ⟨g, 2, none⟩ (.slice CA' (D.M.length + 1) cc')) F' g n gb c NA' nc' CA' cc' (V ++ [(k, .slice A 512 ca)]) { D with M := D.M ++ [(k, y)] } ∧ TS F w ((wD.setCell ⟨g, 1, none⟩ (.slice NA' (D.M.length + 1) nc')).setCell ⟨g, 2, none⟩ (.slice CA' (D.M.length + 1) cc')) := by
  obtain ⟨d1, d2, d3, d4, d5, d6⟩ := h.disj
  have tN := ts_grown hgN
  have tC := ts_grown hgC
  have hsA := f1.le
  have hsB := tN.size
  have hsC := f2.le
  have hsD := tC.size
  have tAll : TS (optBlk NA ++ optBlk CA) w wD := by
    have t1 : TS (optBlk NA ++ optBlk CA) w wA := TS.of f1
    have t2 : TS (optBlk NA ++ optBlk CA) w wB := t1.trans tN (fun x hx => .inl (by simp [hx]))
    have t3 : TS (optBlk NA ++ optBlk CA) w wC := t2.then (TS.of f2)
    exact t3.trans tC (fun x hx => .inl (by simp [hx]))
  have ltF : ∀ x ∈ rctl g gb NA CA, x < w.heap.size := fun x hx => h.lt x (h.mem x hx)
  have eN : ∀ x ∈ optBlk NA', x ∈ optBlk NA ∨ x = wA.heap.size := by
    intro x hx
    cases NA' with
    | none => cases hx
    | some ad =>
      simp only [optBlk, Option.toList_some, List.map_cons, List.map_nil, List.mem_singleton] at hx
      subst hx
      rcases hlN with e | e
      · exact .inl (own_out e.symm)
      · exact .inr (by simpa [Value.ownBlock] using e)
  have eC : ∀ x ∈ optBlk CA', x ∈ optBlk CA ∨ x = wC.heap.size := by
    intro x hx
    cases CA' with
    | none => cases hx
    | some ad =>
      simp only [optBlk, Option.toList_some, List.map_cons, List.map_nil, List.mem_singleton] at hx
      subst hx
      rcases hlC with e | e
      · exact .inl (own_out e.symm)
      · exact .inr (by simpa [Value.ownBlock] using e)
  have lN : ∀ x ∈ optBlk NA, x < w.heap.size := fun x hx => ltF x (by simp [rctl, hx])
  have lC : ∀ x ∈ optBlk CA, x < w.heap.size := fun x hx => ltF x (by simp [rctl, hx])
  have lg := ltF g (by simp [rctl])
  have lgb := ltF gb (by simp [rctl])
  have bN : ∀ x ∈ optBlk NA', x < wB.heap.size := fun x hx => by
    cases NA' with
    | none => cases hx
    | some ad =>
      simp only [optBlk, Option.toList_some, List.map_cons, List.map_nil, List.mem_singleton] at hx
      subst hx
      exact (OwnV.base hoN ad.block rfl).2
  have bC : ∀ x ∈ optBlk CA', x < wD.heap.size := fun x hx => by
    cases CA' with
    | none => cases hx
    | some ad =>
      simp only [optBlk, Option.toList_some, List.map_cons, List.map_nil, List.mem_singleton] at hx
      subst hx
      exact (OwnV.base hoC ad.block rfl).2
  have gN : g ∉ optBlk NA' := fun hm => by rcases eN g hm with h' | h' <;> first | exact d2 h' | omega
  have gC : g ∉ optBlk CA' := fun hm => by rcases eC g hm with h' | h' <;> first | exact d3 h' | omega
  have gbN : gb ∉ optBlk NA' := fun hm => by rcases eN gb hm with h' | h' <;> first | exact d4 h' | omega
  have gbC : gb ∉ optBlk CA' := fun hm => by rcases eC gb hm with h' | h' <;> first | exact d5 h' | omega
  have dNC : ∀ x ∈ optBlk NA', x ∉ optBlk CA' := fun x hx hy' => by
    have := bN x hx
    rcases eC x hy' with h1 | h1
    · rcases eN x hx with h' | h'
      · exact d1 x h' h1
      · have := lC x h1; omega
    · omega
  have hs1 : TS [g] wD (wD.setCell ⟨g, 1, none⟩ (.slice NA' (D.M.length + 1) nc')) := TS.tb (TB.set wD 1 _) (by simp)
  have hs2 : TS [g] (wD.setCell ⟨g, 1, none⟩ (.slice NA' (D.M.length + 1) nc')) ((wD.setCell ⟨g, 1, none⟩ (.slice NA' (D.M.length + 1) nc')).setCell ⟨g, 2, none⟩ (.slice CA' (D.M.length + 1) cc')) := TS.tb (TB.set _ 2 _) (by simp)
  have hs := hs1.then hs2
  have hrowD := (tAll.block g lg (by simp [d2, d3])).trans h.row
  have hrow1 := heap_setCell_same wD g 1 _ _ (.slice NA' (D.M.length + 1) nc') hrowD
  have hrow2 := heap_setCell_same _ g 2 _ _ (.slice CA' (D.M.length + 1) cc') hrow1
  have hN1 : OwnV 3 wD 0 (.slice NA' (D.M.length + 1) nc') ((D.M.map fun p => .int .i64 p.1) ++ [.int .i64 k]) := by
    have k1 := (TS.of (F := []) f2).ownV hoN (by simp)
    exact tC.ownV k1 (fun b hb hm => by
      have h1 := bN b (own_out hb)
      rcases eN b (own_out hb) with h' | h'
      · exact d1 b h' hm
      · have := lC b hm; omega)
  have hAF : ∀ ad, A = some ad → ad.block ∉ rctl g gb NA' CA' := fun ad ha hm => by
    have h1 := hA ad ha
    simp only [rctl, List.cons_append, List.nil_append, List.mem_cons, List.mem_append] at hm
    rcases hm with e | e | e | e
    · exact h1.2 (h.mem _ (by simp [rctl, e]))
    · exact h1.2 (h.mem _ (by simp [rctl, e]))
    · rcases eN _ e with e | e
      · exact h1.2 (h.mem _ (by simp [rctl, e]))
      · omega
    · rcases eC _ e with e | e
      · exact h1.2 (h.mem _ (by simp [rctl, e]))
      · omega
  refine ⟨optBlk NA' ++ (optBlk CA' ++ (optBlk A ++ F)), fun x hx => ?_, ⟨?_, ?_, ?_, ?_, ?_, ?_, ?_, ?_, ?_, ?_⟩, ?_⟩
  · simp only [List.mem_append] at hx
    rcases hx with hx | hx | hx | hx
    · rcases eN x hx with e | e
      · exact .inl (h.mem x (by simp [rctl, e]))
      · exact .inr (.inr (by omega))
    · rcases eC x hx with e | e
      · exact .inl (h.mem x (by simp [rctl, e]))
      · exact .inr (.inr (by omega))
    · exact .inr (.inl hx)
    · exact .inl hx
  · rw [hrow2]
    simp only [List.length_append, List.length_cons, List.length_nil]
    rfl
  · exact hs.ownV (tAll.ownV h.bytes (fun b hb => by cases hb; simp [d4, d5])) (fun b hb => by cases hb; simp only [List.mem_singleton]; exact fun e => d6 e.symm)
  · simp only [List.length_append, List.length_cons, List.length_nil, List.map_append, List.map_cons, List.map_nil]
    exact hs.ownV hN1 (fun b hb => by simp only [List.mem_singleton]; rintro rfl; exact gN (own_out hb))
  · simp only [List.length_append, List.length_cons, List.length_nil, List.map_append, List.map_cons, List.map_nil]
    exact hs.ownV hoC (fun b hb => by simp only [List.mem_singleton]; rintro rfl; exact gC (own_out hb))
  · have mv : ∀ (A' : Option Addr) (x' : List Byte), Rd w A' x' → (∀ ad, A' = some ad → ad.block ∉ rctl g gb NA CA) → Rd ((wD.setCell ⟨g, 1, none⟩ (.slice NA' (D.M.length + 1) nc')).setCell ⟨g, 2, none⟩ (.slice CA' (D.M.length + 1) cc')) A' x' := fun A' x' hr' hb =>
      hs.rd (tAll.rd hr' (fun ad ha hm => hb ad ha (by simp only [List.mem_append] at hm; simp [rctl, hm]))) (fun ad ha hm => hb ad ha (by simp only [List.mem_singleton] at hm; simp [rctl, hm]))
    have hv := h.vals.move (F' := optBlk NA' ++ (optBlk CA' ++ (optBlk A ++ F))) (ctl' := rctl g gb NA' CA') (fun A' x' hr' hb => mv A' x' hr' (fun ad ha => (hb ad ha).2)) (fun b hb hb' => ⟨by simp [hb], fun hm => by
      have hlb := h.lt b hb
      simp only [rctl, List.cons_append, List.nil_append, List.mem_cons, List.mem_append, not_or] at hm hb'
      rcases hm with e | e | e | e
      · exact hb'.1 e
      · exact hb'.2.1 e
      · rcases eN b e with e | e
        · exact hb'.2.2.1 e
        · omega
      · rcases eC b e with e | e
        · exact hb'.2.2.2 e
        · omega⟩)
    have := hv.snoc k (A := A) (c := ca) (y := y) (mv A y hr (fun ad ha hm => (hA ad ha).2 (h.mem _ hm))) (by omega) h3 (fun ad ha => ⟨by simp [optBlk, ha], hAF ad ha⟩)
    rw [hy] at this
    exact this
  · simp only [rctl, List.cons_append, List.nil_append, List.nodup_cons, List.mem_cons, List.mem_append, not_or, List.nodup_append]
    exact ⟨⟨d6, gN, gC⟩, ⟨gbN, gbC⟩, by cases NA' <;> simp [optBlk], by cases CA' <;> simp [optBlk], fun a ha b hb e => dNC a ha (e ▸ hb)⟩
  · intro x hx
    simp only [rctl, List.cons_append, List.nil_append, List.mem_cons, List.mem_append] at hx ⊢
    rcases hx with e | e | e | e
    · exact .inr (.inr (.inr (h.mem x (by simp [rctl, e]))))
    · exact .inr (.inr (.inr (h.mem x (by simp [rctl, e]))))
    · exact .inl e
    · exact .inr (.inl e)
  · intro x hx
    simp only [List.mem_append] at hx
    have := hs.size
    rcases hx with hx | hx | hx | hx
    · have := bN x hx; omega
    · have := bC x hx; omega
    · cases A with
      | none => cases hx
      | some ad =>
        simp only [optBlk, Option.toList_some, List.map_cons, List.map_nil, List.mem_singleton] at hx
        subst hx
        have := (hA ad rfl).1; omega
    · have := h.lt x hx; omega
  · exact ⟨h.ok.len, h.ok.n1, h.ok.n2, fun p hp => by
      rcases List.mem_append.1 hp with hp | hp
      · exact h.ok.M p hp
      · simp only [List.mem_singleton] at hp; subst hp; exact ⟨hk0, hkn, hy⟩, h.ok.f⟩
  · simp only [List.map_append, List.map_cons, List.map_nil]
    rw [List.nodup_append]
    refine ⟨h.nd, by simp, fun a ha b hb e => ?_⟩
    simp only [List.mem_singleton] at hb
    obtain ⟨p, hp, rfl⟩ := List.mem_map.1 ha
    obtain ⟨j, hj⟩ := List.getElem?_of_mem hp
    exact cget_none_at hno j p hj (by rw [e, hb])
  · have t1 : TS F w wD := ⟨tAll.os, tAll.tape, tAll.output, tAll.size, fun x hx hn => tAll.block x hx (fun hm => hn (by
      simp only [List.mem_append] at hm
      exact h.mem x (by simp [rctl, hm])))⟩
    exact t1.trans hs (fun x hx => .inl (by simp only [List.mem_singleton] at hx; rw [hx]; exact h.mem g (by simp [rctl])))
end
end Go.Proofs.Ytihljjfnjclefaa
/- The reference's disk: the walk through Write. -/
set_option linter.unusedVariables false
set_option linter.unusedSimpArgs false
namespace Go.Proofs.Ytihljjfnjclefaa
open Go.ChangeShapes Go.WideShapes Go.ChangeAt Go.RowKit Go.MapKept
set_option maxRecDepth 100000

section
variable {w w' : World} {F F' : List Nat} {g n : Nat} {D : DiskSt}
set_option maxHeartbeats 2000000 in
theorem ref_Write (h : RDsk w F g n D) (k : Int) (A : Option Addr) (m ca : Nat) (xs : List Byte) (hm : m = xs.length) (hl : xs.length ≤ 100000000000) (hr : Rd w A xs) (hAF : ∀ ad, A = some ad → ad.block ∉ F) :
    Calls Try.prog 74 #[.pointer (some ⟨g, 0, none⟩), .int .i64 k, .slice A m ca] w fun e w' => e = .returned (.int .i64 (sdWrite D n k xs).1) ∧ RRes w F g n (sdWrite D n k xs).2 w' := by
  subst hm
  have H := Lib.hid h
  have HR := Lib.hid hr
  unfold sdWrite
  by_cases hneg : k < 0
  · rw [if_pos (.inl hneg)]
    clear h hr
    go_enter Try.func74, Try.ntmps74
    go_wp2
    go_ret
    exact ⟨rfl, F, fun x hx => .inl hx, H.out, TS.refl _ _⟩
  · by_cases hbig : (n : Int) ≤ k
    · rw [if_pos (.inr (.inl hbig))]
      clear h hr
      go_enter Try.func74, Try.ntmps74
      go_wp2_with fail
      refine (ref_Sectors H.out).mono ?_
      rintro e w1 ⟨rfl, rfl⟩
      go_wp2
      go_ret
      exact ⟨rfl, F, fun x hx => .inl hx, H.out, TS.refl _ _⟩
    · by_cases hlen : xs.length = 512
      · rw [if_neg (by omega)]
        have HFA := Lib.hid (ref_fails h)
        have HXL := Lib.hid hlen
        cases hff : (ffail D.fuse).1 with
        | true =>
          rw [if_pos rfl]
          rw [hff] at HFA
          clear h hff hr
          go_enter Try.func74, Try.ntmps74
          go_wp2_with fail
          refine (ref_Sectors H.out).mono ?_
          rintro e w1 ⟨rfl, rfl⟩
          go_wp2_with fail
          refine HFA.out.mono ?_
          rintro e w1 ⟨rfl, hd, ht⟩
          have HD1 := Lib.hid hd
          have HT1 := Lib.hid ht
          clear hd ht
          go_wp2
          go_ret
          exact ⟨rfl, F, fun x hx => .inl hx, HD1.out, HT1.out⟩
        | false =>
          rw [if_neg (by simp)]
          rw [hff] at HFA
          generalize (ffail D.fuse).2 = fz at *
          have hk0 : 0 ≤ k := by omega
          have hkn : k < (n : Int) := by omega
          rw [hlen]
          clear h hff hr hlen
          go_enter Try.func74, Try.ntmps74
          go_wp2_with fail
          refine (ref_Sectors H.out).mono ?_
          rintro e w1 ⟨rfl, rfl⟩
          go_wp2_with fail
          refine HFA.out.mono ?_
          rintro e w1 ⟨rfl, hd, ht⟩
          have HD1 := Lib.hid hd
          have HT1 := Lib.hid ht
          have HR1 := Lib.hid (ht.rd HR.out hAF)
          have HC := Lib.hid (cfi_spec D.M k)
          clear hd ht
          go_wp2_with (at_builtin; refine wpList_append_bytes rfl _ _ rfl w1.heap.size _ [] (OwnV.lit _ w1 [] (by simp)) rfl A ca xs (by rw [HXL.out]; rfl) (HR1.out.alloc _) (by have := HXL.out; simp; omega) (by simp) ?_; intro v' w3 ho hg _; have HO := Lib.hid ho; have HG := Lib.hid hg; clear ho hg)
          have ho := HO.out
          rw [List.nil_append] at ho
          obtain ⟨A3, c3, rfl, -⟩ := ho.form
          rw [HXL.out] at ho ⊢
          have HO3 := Lib.hid (Own.info ho)
          have HF3 := Lib.hid (show FB w1 w3 from ((FB.refl w1).alloc _).grown HG.out (by simp [Value.ownBlock]))
          have HD3 := Lib.hid (HD1.out.fb HF3.out)
          clear ho HO HG
          refine (ref_find HD3.out k).mono ?_
          rintro e w4 ⟨rfl, rfl⟩
          obtain ⟨gb, c, NA, nc, CA, cc, V, hD⟩ := HD3.out
          have hDlt := HD1.out.lt
          have HX := Lib.hid (show Rd w3 A3 xs ∧ c3 ≤ maxLen ∧ ∀ ad, A3 = some ad → ad.block < w3.heap.size ∧ ad.block ∉ F from
            ⟨HO3.out.2.2.1, HO3.out.2.1, fun ad ha => ⟨(HO3.out.2.2.2.2 ad ha).2, fun hm => by have h1 := (HO3.out.2.2.2.2 ad ha).1; have h2 := hDlt _ hm; omega⟩⟩)
          have HC3 := Lib.hid (show 512 ≤ c3 from by have := HO3.out.1; rw [HXL.out] at this; exact this)
          have HA3 := Lib.hid (show ∀ x ∈ optBlk A3, w1.heap.size ≤ x from fun x hx => by
            cases A3 with
            | none => cases hx
            | some ad =>
              simp only [optBlk, Option.toList_some, List.map_cons, List.map_nil, List.mem_singleton] at hx
              subst hx
              exact (HO3.out.2.2.2.2 ad rfl).1)
          have hmlx := hD.mlen
          have HMLN := Lib.hid (Nat.le_trans hmlx hD.ok.n2)
          obtain ⟨q0, q1, q2, q3⟩ := row4 hD.row
          simp only at q0 q1 q2 q3
          clear hDlt hmlx
          rcases HC.out with ⟨h1, h2, h3, -⟩ | ⟨i, x, h1, h2, h3, h4, h5, -⟩
          · rw [show cfiZ D.M k = -1 from by unfold cfiZ; rw [h1]]
            have HPUT := Lib.hid (h3 xs)
            have HNO := Lib.hid h2
            have HDg := Lib.hid hD
            clear h1 h2 h3 hD HC
            go_wp2_with fail
            obtain ⟨W3, hW3⟩ : ∃ W3 : World, W3 = w3 := ⟨_, rfl⟩
            rw [← hW3]
            refine region_schB (E := TS (optBlk NA ++ optBlk CA)) ([(0, true), (1, true), (2, true), (3, true), (4, true), (6, true), (9, true), (10, true), (11, true), (13, true)]) ([(5, true), (12, true)]) (.two [(7, false)] (.two [(8, false), (14, false), (15, false)] .leaf [(14, false), (8, false), (15, false)] .leaf) [(14, false), (7, false), (8, false), (15, false)] .leaf) ([(16, true), (17, true), (18, false), (19, true), (20, true), (21, false)]) (by kernel_rfl) (TS.refl _) (fun _ _ _ h k => TS.then h k) (fun _ _ d _ _ h => by cases d <;> exact h) (by kernel_rfl) ?_
            intro ops hops0
            have hops := Lib.hid hops0
            clear hops0
            have HD : FB W3 W3.drew := (FB.refl _).drew
            generalize W3.drew = wF3 at *
            rw [hW3] at HD
            clear hW3
            have HQ := Lib.hid (row4 (HDg.out.fb HD).row)
            have HGX := Lib.hid (show g ∉ optBlk NA ++ optBlk CA from by have := HDg.out.disj; simp [this.2.1, this.2.2.1])
            clear q0 q1 q2 q3
            repeat (refine sch_take (o := ?_) (v := ?_) (a' := ?_) (at_of hops.out ?_) ?_ (fun W hW => ?_) ?_ ?_; rotate_left 3; (focus (simp only [List.getElem?_toArray, List.getElem?_cons_zero, List.getElem?_cons_succ]; rfl)); (focus (rw [hops.out]; rfl)); (focus (go_simp; with_reducible rfl)); (focus (simp only [Act.put, List.setIfInBounds_toArray, List.set_cons_zero, List.set_cons_succ]; rfl)))
            refine sch_done ?_
            refine schB_pre ?_
            repeat (refine sch_take (o := ?_) (v := ?_) (a' := ?_) (at_of hops.out ?_) ?_ (fun W hW => ?_) ?_ ?_; rotate_left 3; (focus (simp only [List.getElem?_toArray, List.getElem?_cons_zero, List.getElem?_cons_succ]; rfl)); (focus (rw [hops.out]; rfl)); (focus (have u1 := TS.cell hW HQ.out.2.1 HGX.out; have u2 := TS.cell hW HQ.out.2.2.1 HGX.out; go_simp; with_reducible rfl)); (focus (simp only [Act.put, List.setIfInBounds_toArray, List.set_cons_zero, List.set_cons_succ]; rfl)))
            refine sch_done ?_
            refine schB_two ?_ ?_
            · (refine sch_run (o := ?_) (v := ?_) (a' := ?_) (w' := ?_) (at_of hops.out ?_) ?_ ?_ ?_ ?_ ?_; rotate_left 4; (focus (simp only [List.getElem?_toArray, List.getElem?_cons_zero, List.getElem?_cons_succ]; rfl)); (focus (rw [hops.out]; rfl)); (focus (go_simp; constructor <;> with_reducible rfl)); (focus (exact TS.of ((FB.refl _).alloc _))); (focus (simp only [Act.put, List.setIfInBounds_toArray, List.set_cons_zero, List.set_cons_succ]; rfl)))
              refine sch_done ?_
              refine schB_two ?_ ?_
              · have HFA := Lib.hid (HD.alloc (.cells #[.int .i64 k] 3))
                have HKA := Lib.hid (show RdV (wF3.alloc (.cells #[.int .i64 k] 3)) (some ⟨wF3.heap.size, 0, none⟩) [.int .i64 k] from RdV.lit wF3 [.int .i64 k] 3)
                generalize hwA : wF3.alloc (.cells #[.int .i64 k] 3) = wA at *
                clear hwA
                (refine sch_append (o := ?_) (at_of hops.out ?_) ?_ (.tmp 44) (.tmp 46) 91 3 8 (.int .i64 0) Try.underlying91 info_int rfl ?_ 0 (.slice NA D.M.length nc) (D.M.map fun p => .int .i64 p.1) (HDg.out.fb HFA.out).keys ?_ _ 1 1 [.int .i64 k] rfl ?_ HKA.out (fun u hu => by simp only [List.mem_singleton] at hu; subst hu; rfl) (by have := HMLN.out; simp [maxLen]; omega) (by have := HMLN.out; simp; omega) (Nat.zero_le _) ?_; rotate_left 1; (focus (simp only [List.getElem?_toArray, List.getElem?_cons_zero, List.getElem?_cons_succ]; rfl)); (focus (rw [hops.out]; rfl)); (focus rfl); (focus rfl); (focus rfl))
                intro v' wB hoN hgN hlN
                obtain ⟨NA', nc', rfl, -⟩ := OwnV.form hoN
                simp only [List.length_append, List.length_map, List.length_cons, List.length_nil, Nat.zero_add] at hoN hlN ⊢
                have HON := Lib.hid hoN
                have HGN := Lib.hid hgN
                have HLN := Lib.hid hlN
                clear hoN hgN hlN
                refine ⟨(TS.refl _ _).trans (ts_grown HGN.out) (fun x hx => .inl (by simp [hx])), ?_⟩
                intro a' ha'
                simp only [Act.put, List.setIfInBounds_toArray, List.set_cons_zero, List.set_cons_succ] at ha'
                subst ha'
                (refine sch_run (o := ?_) (v := ?_) (a' := ?_) (w' := ?_) (at_of hops.out ?_) ?_ ?_ ?_ ?_ ?_; rotate_left 4; (focus (simp only [List.getElem?_toArray, List.getElem?_cons_zero, List.getElem?_cons_succ]; rfl)); (focus (rw [hops.out]; rfl)); (focus (go_simp; constructor <;> with_reducible rfl)); (focus (exact TS.of ((FB.refl _).alloc _))); (focus (simp only [Act.put, List.setIfInBounds_toArray, List.set_cons_zero, List.set_cons_succ]; rfl)))
                have HFC := Lib.hid ((FB.refl wB).alloc (.cells #[.slice A3 512 c3] 22))
                have HVC := Lib.hid (show RdV (wB.alloc (.cells #[.slice A3 512 c3] 22)) (some ⟨wB.heap.size, 0, none⟩) [.slice A3 512 c3] from RdV.lit wB [.slice A3 512 c3] 22)
                generalize hwC : wB.alloc (.cells #[.slice A3 512 c3] 22) = wC at *
                clear hwC
                have HRC := Lib.hid (show OwnV 22 wC 0 (.slice CA D.M.length cc) (V.map (·.2)) from (TS.of (F := []) HFC.out).ownV ((ts_grown HGN.out).ownV (HDg.out.fb HFA.out).rows (fun b hb hm => HDg.out.disj.1 b hm (own_out hb))) (by simp))
                have HVL := Lib.hid (show (V.map (·.2)).length = D.M.length from by rw [List.length_map, HDg.out.vals.len])
                (refine sch_append (o := ?_) (at_of hops.out ?_) ?_ (.tmp 51) (.tmp 53) 44 22 24 (.slice none 0 0) Try.underlying44 info_bs rfl ?_ 0 (.slice CA D.M.length cc) (V.map (·.2)) HRC.out ?_ _ 1 1 [.slice A3 512 c3] rfl ?_ HVC.out (fun u hu => by simp only [List.mem_singleton] at hu; subst hu; rfl) (by rw [HVL.out]; have := HMLN.out; simp [maxLen]; omega) (by rw [HVL.out]; have := HMLN.out; simp; omega) (Nat.zero_le _) ?_; rotate_left 1; (focus (simp only [List.getElem?_toArray, List.getElem?_cons_zero, List.getElem?_cons_succ]; rfl)); (focus (rw [hops.out]; rfl)); (focus rfl); (focus rfl); (focus rfl))
                intro v' wD hoC hgC hlC
                obtain ⟨CA', cc', rfl, -⟩ := OwnV.form hoC
                simp only [List.length_append, HVL.out, List.length_cons, List.length_nil, Nat.zero_add] at hoC hlC ⊢
                have HOC := Lib.hid hoC
                have HGC := Lib.hid hgC
                have HLC := Lib.hid hlC
                clear hoC hgC hlC
                refine ⟨(TS.refl _ _).trans (ts_grown HGC.out) (fun x hx => .inl (by simp [hx])), ?_⟩
                intro a' ha'
                simp only [Act.put, List.setIfInBounds_toArray, List.set_cons_zero, List.set_cons_succ] at ha'
                subst ha'
                refine sch_done ?_
                refine schB_leaf ?_
                have HTD := Lib.hid (show TS (optBlk NA ++ optBlk CA) w3 wD from ((((TS.of (F := optBlk NA ++ optBlk CA) HFA.out).trans (ts_grown HGN.out) (fun x hx => .inl (by simp [hx]))).then (TS.of HFC.out)).trans (ts_grown HGC.out) (fun x hx => .inl (by simp [hx]))))
                have HRWD := Lib.hid ((HTD.out.block g (Array.getElem?_eq_some_iff.1 HDg.out.row).1 (by have := HDg.out.disj; simp [this.2.1, this.2.2.1])).trans HDg.out.row)
                have HRWE := Lib.hid (heap_setCell_same wD g 1 _ _ (.slice NA' (D.M.length + 1) nc') HRWD.out)
                obtain ⟨F4, hF4, hD4, hT4⟩ := HDg.out.grow HFA.out HON.out HGN.out HLN.out HFC.out HOC.out HGC.out HLC.out hk0 hkn HNO.out HXL.out HX.out.1 HC3.out HX.out.2.1 HX.out.2.2
                have HRES := Lib.hid (show RRes w F g n { D with fuse := fz, M := cput D.M k xs } ((wD.setCell ⟨g, 1, none⟩ (.slice NA' (D.M.length + 1) nc')).setCell ⟨g, 2, none⟩ (.slice CA' (D.M.length + 1) cc')) from by
                  refine ⟨F4, fun y hy => ?_, ⟨gb, c, NA', nc', CA', cc', _, by rw [HPUT.out]; exact hD4⟩, HT1.out.then ((TS.of HF3.out).then hT4)⟩
                  rcases hF4 y hy with h | h | h
                  · exact .inl h
                  · exact .inr (Nat.le_trans HT1.out.size (HA3.out y h))
                  · exact .inr (Nat.le_trans HT1.out.size (Nat.le_trans HF3.out.le h)))
                clear hF4 hD4 hT4
                repeat (refine sch_take (o := ?_) (v := ?_) (a' := ?_) (at_of hops.out ?_) ?_ (fun W hW => ?_) ?_ ?_; rotate_left 3; (focus (simp only [List.getElem?_toArray, List.getElem?_cons_zero, List.getElem?_cons_succ]; rfl)); (focus (rw [hops.out]; rfl)); (focus (go_simp; with_reducible rfl)); (focus (simp only [Act.put, List.setIfInBounds_toArray, List.set_cons_zero, List.set_cons_succ]; rfl)))
                obtain ⟨s0, s1, s2, s3⟩ := row4 HRWD.out
                have t1 := frozen_row _ HRWD.out 1
                (refine sch_store (o := ?_) (at_of hops.out ?_) ?_ 91 (.tmp 56) (.tmp 47) ?_ ?_ ⟨g, 1, none⟩ (.slice NA' (D.M.length + 1) nc') ?_ ?_ ?_ trivial ?_; rotate_left 1; (focus (simp only [List.getElem?_toArray, List.getElem?_cons_zero, List.getElem?_cons_succ]; rfl)); (focus (rw [hops.out]; rfl)); (focus rfl); (focus rfl); (focus rfl); (focus rfl); (focus (go_simp)))
                clear s0 s1 s2 s3 t1
                obtain ⟨s0, s1, s2, s3⟩ := row4 HRWE.out
                have t2 := frozen_row _ HRWE.out 2
                repeat (refine sch_take (o := ?_) (v := ?_) (a' := ?_) (at_of hops.out ?_) ?_ (fun W hW => ?_) ?_ ?_; rotate_left 3; (focus (simp only [List.getElem?_toArray, List.getElem?_cons_zero, List.getElem?_cons_succ]; rfl)); (focus (rw [hops.out]; rfl)); (focus (go_simp; with_reducible rfl)); (focus (simp only [Act.put, List.setIfInBounds_toArray, List.set_cons_zero, List.set_cons_succ]; rfl)))
                (refine sch_store (o := ?_) (at_of hops.out ?_) ?_ 44 (.tmp 58) (.tmp 54) ?_ ?_ ⟨g, 2, none⟩ (.slice CA' (D.M.length + 1) cc') ?_ ?_ ?_ trivial ?_; rotate_left 1; (focus (simp only [List.getElem?_toArray, List.getElem?_cons_zero, List.getElem?_cons_succ]; rfl)); (focus (rw [hops.out]; rfl)); (focus rfl); (focus rfl); (focus rfl); (focus rfl); (focus (go_simp)))
                refine sch_done ?_
                clear s0 s1 s2 s3 t2 hops
                go_wp2
                go_ret
                exact ⟨rfl, HRES.out⟩
              · (refine sch_run (o := ?_) (v := ?_) (a' := ?_) (w' := ?_) (at_of hops.out ?_) ?_ ?_ ?_ ?_ ?_; rotate_left 4; (focus (simp only [List.getElem?_toArray, List.getElem?_cons_zero, List.getElem?_cons_succ]; rfl)); (focus (rw [hops.out]; rfl)); (focus (go_simp; constructor <;> with_reducible rfl)); (focus (exact TS.of ((FB.refl _).alloc _))); (focus (simp only [Act.put, List.setIfInBounds_toArray, List.set_cons_zero, List.set_cons_succ]; rfl)))
                have HFA := Lib.hid ((HD.alloc (.cells #[.int .i64 k] 3)).alloc (.cells #[.slice A3 512 c3] 22))
                have HKA := Lib.hid (show RdV ((wF3.alloc (.cells #[.int .i64 k] 3)).alloc (.cells #[.slice A3 512 c3] 22)) (some ⟨wF3.heap.size, 0, none⟩) [.int .i64 k] from (RdV.lit wF3 [.int .i64 k] 3).alloc _)
                have HVA := Lib.hid (show RdV ((wF3.alloc (.cells #[.int .i64 k] 3)).alloc (.cells #[.slice A3 512 c3] 22)) (some ⟨wF3.heap.size + 1, 0, none⟩) [.slice A3 512 c3] from RdV.lit (wF3.alloc (.cells #[.int .i64 k] 3)) [.slice A3 512 c3] 22)
                generalize hwA : (wF3.alloc (.cells #[.int .i64 k] 3)).alloc (.cells #[.slice A3 512 c3] 22) = wA at *
                clear hwA
                (refine sch_append (o := ?_) (at_of hops.out ?_) ?_ (.tmp 44) (.tmp 46) 91 3 8 (.int .i64 0) Try.underlying91 info_int rfl ?_ 0 (.slice NA D.M.length nc) (D.M.map fun p => .int .i64 p.1) (HDg.out.fb HFA.out).keys ?_ _ 1 1 [.int .i64 k] rfl ?_ HKA.out (fun u hu => by simp only [List.mem_singleton] at hu; subst hu; rfl) (by have := HMLN.out; simp [maxLen]; omega) (by have := HMLN.out; simp; omega) (Nat.zero_le _) ?_; rotate_left 1; (focus (simp only [List.getElem?_toArray, List.getElem?_cons_zero, List.getElem?_cons_succ]; rfl)); (focus (rw [hops.out]; rfl)); (focus rfl); (focus rfl); (focus rfl))
                intro v' wB hoN hgN hlN
                obtain ⟨NA', nc', rfl, -⟩ := OwnV.form hoN
                simp only [List.length_append, List.length_map, List.length_cons, List.length_nil, Nat.zero_add] at hoN hlN ⊢
                have HON := Lib.hid hoN
                have HGN := Lib.hid hgN
                have HLN := Lib.hid hlN
                clear hoN hgN hlN
                refine ⟨(TS.refl _ _).trans (ts_grown HGN.out) (fun x hx => .inl (by simp [hx])), ?_⟩
                intro a' ha'
                simp only [Act.put, List.setIfInBounds_toArray, List.set_cons_zero, List.set_cons_succ] at ha'
                subst ha'
                have HFC := Lib.hid (FB.refl wB)
                obtain ⟨wC, hwC⟩ : ∃ wC : World, wC = wB := ⟨_, rfl⟩
                have HVC := Lib.hid (show RdV wC (some ⟨wF3.heap.size + 1, 0, none⟩) [.slice A3 512 c3] from by
                  rw [hwC]
                  refine RdV.move HVA.out fun a v e hc => (ts_grown HGN.out).cell hc (fun hm => ?_)
                  simp at e
                  rw [← e] at hm
                  have h1 := HDg.out.lt (wF3.heap.size + 1) (HDg.out.mem (wF3.heap.size + 1) (by simp [rctl, hm]))
                  have h2 := HD.le
                  omega)
                rw [← hwC] at HFC ⊢
                have HFC := Lib.hid (show FB wB wC from by rw [hwC]; exact FB.refl _)
                clear hwC
                have HRC := Lib.hid (show OwnV 22 wC 0 (.slice CA D.M.length cc) (V.map (·.2)) from (TS.of (F := []) HFC.out).ownV ((ts_grown HGN.out).ownV (HDg.out.fb HFA.out).rows (fun b hb hm => HDg.out.disj.1 b hm (own_out hb))) (by simp))
                have HVL := Lib.hid (show (V.map (·.2)).length = D.M.length from by rw [List.length_map, HDg.out.vals.len])
                (refine sch_append (o := ?_) (at_of hops.out ?_) ?_ (.tmp 51) (.tmp 53) 44 22 24 (.slice none 0 0) Try.underlying44 info_bs rfl ?_ 0 (.slice CA D.M.length cc) (V.map (·.2)) HRC.out ?_ _ 1 1 [.slice A3 512 c3] rfl ?_ HVC.out (fun u hu => by simp only [List.mem_singleton] at hu; subst hu; rfl) (by rw [HVL.out]; have := HMLN.out; simp [maxLen]; omega) (by rw [HVL.out]; have := HMLN.out; simp; omega) (Nat.zero_le _) ?_; rotate_left 1; (focus (simp only [List.getElem?_toArray, List.getElem?_cons_zero, List.getElem?_cons_succ]; rfl)); (focus (rw [hops.out]; rfl)); (focus rfl); (focus rfl); (focus rfl))
                intro v' wD hoC hgC hlC
                obtain ⟨CA', cc', rfl, -⟩ := OwnV.form hoC
                simp only [List.length_append, HVL.out, List.length_cons, List.length_nil, Nat.zero_add] at hoC hlC ⊢
                have HOC := Lib.hid hoC
                have HGC := Lib.hid hgC
                have HLC := Lib.hid hlC
                clear hoC hgC hlC
                refine ⟨(TS.refl _ _).trans (ts_grown HGC.out) (fun x hx => .inl (by simp [hx])), ?_⟩
                intro a' ha'
                simp only [Act.put, List.setIfInBounds_toArray, List.set_cons_zero, List.set_cons_succ] at ha'
                subst ha'
                refine sch_done ?_
                refine schB_leaf ?_
                have HTD := Lib.hid (show TS (optBlk NA ++ optBlk CA) w3 wD from ((((TS.of (F := optBlk NA ++ optBlk CA) HFA.out).trans (ts_grown HGN.out) (fun x hx => .inl (by simp [hx]))).then (TS.of HFC.out)).trans (ts_grown HGC.out) (fun x hx => .inl (by simp [hx]))))
                have HRWD := Lib.hid ((HTD.out.block g (Array.getElem?_eq_some_iff.1 HDg.out.row).1 (by have := HDg.out.disj; simp [this.2.1, this.2.2.1])).trans HDg.out.row)
                have HRWE := Lib.hid (heap_setCell_same wD g 1 _ _ (.slice NA' (D.M.length + 1) nc') HRWD.out)
                obtain ⟨F4, hF4, hD4, hT4⟩ := HDg.out.grow HFA.out HON.out HGN.out HLN.out HFC.out HOC.out HGC.out HLC.out hk0 hkn HNO.out HXL.out HX.out.1 HC3.out HX.out.2.1 HX.out.2.2
                have HRES := Lib.hid (show RRes w F g n { D with fuse := fz, M := cput D.M k xs } ((wD.setCell ⟨g, 1, none⟩ (.slice NA' (D.M.length + 1) nc')).setCell ⟨g, 2, none⟩ (.slice CA' (D.M.length + 1) cc')) from by
                  refine ⟨F4, fun y hy => ?_, ⟨gb, c, NA', nc', CA', cc', _, by rw [HPUT.out]; exact hD4⟩, HT1.out.then ((TS.of HF3.out).then hT4)⟩
                  rcases hF4 y hy with h | h | h
                  · exact .inl h
                  · exact .inr (Nat.le_trans HT1.out.size (HA3.out y h))
                  · exact .inr (Nat.le_trans HT1.out.size (Nat.le_trans HF3.out.le h)))
                clear hF4 hD4 hT4
                repeat (refine sch_take (o := ?_) (v := ?_) (a' := ?_) (at_of hops.out ?_) ?_ (fun W hW => ?_) ?_ ?_; rotate_left 3; (focus (simp only [List.getElem?_toArray, List.getElem?_cons_zero, List.getElem?_cons_succ]; rfl)); (focus (rw [hops.out]; rfl)); (focus (go_simp; with_reducible rfl)); (focus (simp only [Act.put, List.setIfInBounds_toArray, List.set_cons_zero, List.set_cons_succ]; rfl)))
                obtain ⟨s0, s1, s2, s3⟩ := row4 HRWD.out
                have t1 := frozen_row _ HRWD.out 1
                (refine sch_store (o := ?_) (at_of hops.out ?_) ?_ 91 (.tmp 56) (.tmp 47) ?_ ?_ ⟨g, 1, none⟩ (.slice NA' (D.M.length + 1) nc') ?_ ?_ ?_ trivial ?_; rotate_left 1; (focus (simp only [List.getElem?_toArray, List.getElem?_cons_zero, List.getElem?_cons_succ]; rfl)); (focus (rw [hops.out]; rfl)); (focus rfl); (focus rfl); (focus rfl); (focus rfl); (focus (go_simp)))
                clear s0 s1 s2 s3 t1
                obtain ⟨s0, s1, s2, s3⟩ := row4 HRWE.out
                have t2 := frozen_row _ HRWE.out 2
                repeat (refine sch_take (o := ?_) (v := ?_) (a' := ?_) (at_of hops.out ?_) ?_ (fun W hW => ?_) ?_ ?_; rotate_left 3; (focus (simp only [List.getElem?_toArray, List.getElem?_cons_zero, List.getElem?_cons_succ]; rfl)); (focus (rw [hops.out]; rfl)); (focus (go_simp; with_reducible rfl)); (focus (simp only [Act.put, List.setIfInBounds_toArray, List.set_cons_zero, List.set_cons_succ]; rfl)))
                (refine sch_store (o := ?_) (at_of hops.out ?_) ?_ 44 (.tmp 58) (.tmp 54) ?_ ?_ ⟨g, 2, none⟩ (.slice CA' (D.M.length + 1) cc') ?_ ?_ ?_ trivial ?_; rotate_left 1; (focus (simp only [List.getElem?_toArray, List.getElem?_cons_zero, List.getElem?_cons_succ]; rfl)); (focus (rw [hops.out]; rfl)); (focus rfl); (focus rfl); (focus rfl); (focus rfl); (focus (go_simp)))
                refine sch_done ?_
                clear s0 s1 s2 s3 t2 hops
                go_wp2
                go_ret
                exact ⟨rfl, HRES.out⟩
            · (refine sch_run (o := ?_) (v := ?_) (a' := ?_) (w' := ?_) (at_of hops.out ?_) ?_ ?_ ?_ ?_ ?_; rotate_left 4; (focus (simp only [List.getElem?_toArray, List.getElem?_cons_zero, List.getElem?_cons_succ]; rfl)); (focus (rw [hops.out]; rfl)); (focus (go_simp; constructor <;> with_reducible rfl)); (focus (exact TS.of ((FB.refl _).alloc _))); (focus (simp only [Act.put, List.setIfInBounds_toArray, List.set_cons_zero, List.set_cons_succ]; rfl)))
              (refine sch_run (o := ?_) (v := ?_) (a' := ?_) (w' := ?_) (at_of hops.out ?_) ?_ ?_ ?_ ?_ ?_; rotate_left 4; (focus (simp only [List.getElem?_toArray, List.getElem?_cons_zero, List.getElem?_cons_succ]; rfl)); (focus (rw [hops.out]; rfl)); (focus (go_simp; constructor <;> with_reducible rfl)); (focus (exact TS.of ((FB.refl _).alloc _))); (focus (simp only [Act.put, List.setIfInBounds_toArray, List.set_cons_zero, List.set_cons_succ]; rfl)))
              have HFA := Lib.hid ((HD.alloc (.cells #[.slice A3 512 c3] 22)).alloc (.cells #[.int .i64 k] 3))
              have HVA := Lib.hid (show RdV ((wF3.alloc (.cells #[.slice A3 512 c3] 22)).alloc (.cells #[.int .i64 k] 3)) (some ⟨wF3.heap.size, 0, none⟩) [.slice A3 512 c3] from (RdV.lit wF3 [.slice A3 512 c3] 22).alloc _)
              have HKA := Lib.hid (show RdV ((wF3.alloc (.cells #[.slice A3 512 c3] 22)).alloc (.cells #[.int .i64 k] 3)) (some ⟨wF3.heap.size + 1, 0, none⟩) [.int .i64 k] from RdV.lit (wF3.alloc (.cells #[.slice A3 512 c3] 22)) [.int .i64 k] 3)
              generalize hwA : (wF3.alloc (.cells #[.slice A3 512 c3] 22)).alloc (.cells #[.int .i64 k] 3) = wA at *
              clear hwA
              (refine sch_append (o := ?_) (at_of hops.out ?_) ?_ (.tmp 44) (.tmp 46) 91 3 8 (.int .i64 0) Try.underlying91 info_int rfl ?_ 0 (.slice NA D.M.length nc) (D.M.map fun p => .int .i64 p.1) (HDg.out.fb HFA.out).keys ?_ _ 1 1 [.int .i64 k] rfl ?_ HKA.out (fun u hu => by simp only [List.mem_singleton] at hu; subst hu; rfl) (by have := HMLN.out; simp [maxLen]; omega) (by have := HMLN.out; simp; omega) (Nat.zero_le _) ?_; rotate_left 1; (focus (simp only [List.getElem?_toArray, List.getElem?_cons_zero, List.getElem?_cons_succ]; rfl)); (focus (rw [hops.out]; rfl)); (focus rfl); (focus rfl); (focus rfl))
              intro v' wB hoN hgN hlN
              obtain ⟨NA', nc', rfl, -⟩ := OwnV.form hoN
              simp only [List.length_append, List.length_map, List.length_cons, List.length_nil, Nat.zero_add] at hoN hlN ⊢
              have HON := Lib.hid hoN
              have HGN := Lib.hid hgN
              have HLN := Lib.hid hlN
              clear hoN hgN hlN
              refine ⟨(TS.refl _ _).trans (ts_grown HGN.out) (fun x hx => .inl (by simp [hx])), ?_⟩
              intro a' ha'
              simp only [Act.put, List.setIfInBounds_toArray, List.set_cons_zero, List.set_cons_succ] at ha'
              subst ha'
              have HFC := Lib.hid (FB.refl wB)
              obtain ⟨wC, hwC⟩ : ∃ wC : World, wC = wB := ⟨_, rfl⟩
              have HVC := Lib.hid (show RdV wC (some ⟨wF3.heap.size, 0, none⟩) [.slice A3 512 c3] from by
                rw [hwC]
                refine RdV.move HVA.out fun a v e hc => (ts_grown HGN.out).cell hc (fun hm => ?_)
                simp at e
                rw [← e] at hm
                have h1 := HDg.out.lt wF3.heap.size (HDg.out.mem wF3.heap.size (by simp [rctl, hm]))
                have h2 := HD.le
                omega)
              rw [← hwC] at HFC ⊢
              have HFC := Lib.hid (show FB wB wC from by rw [hwC]; exact FB.refl _)
              clear hwC
              have HRC := Lib.hid (show OwnV 22 wC 0 (.slice CA D.M.length cc) (V.map (·.2)) from (TS.of (F := []) HFC.out).ownV ((ts_grown HGN.out).ownV (HDg.out.fb HFA.out).rows (fun b hb hm => HDg.out.disj.1 b hm (own_out hb))) (by simp))
              have HVL := Lib.hid (show (V.map (·.2)).length = D.M.length from by rw [List.length_map, HDg.out.vals.len])
              (refine sch_append (o := ?_) (at_of hops.out ?_) ?_ (.tmp 51) (.tmp 53) 44 22 24 (.slice none 0 0) Try.underlying44 info_bs rfl ?_ 0 (.slice CA D.M.length cc) (V.map (·.2)) HRC.out ?_ _ 1 1 [.slice A3 512 c3] rfl ?_ HVC.out (fun u hu => by simp only [List.mem_singleton] at hu; subst hu; rfl) (by rw [HVL.out]; have := HMLN.out; simp [maxLen]; omega) (by rw [HVL.out]; have := HMLN.out; simp; omega) (Nat.zero_le _) ?_; rotate_left 1; (focus (simp only [List.getElem?_toArray, List.getElem?_cons_zero, List.getElem?_cons_succ]; rfl)); (focus (rw [hops.out]; rfl)); (focus rfl); (focus rfl); (focus rfl))
              intro v' wD hoC hgC hlC
              obtain ⟨CA', cc', rfl, -⟩ := OwnV.form hoC
              simp only [List.length_append, HVL.out, List.length_cons, List.length_nil, Nat.zero_add] at hoC hlC ⊢
              have HOC := Lib.hid hoC
              have HGC := Lib.hid hgC
              have HLC := Lib.hid hlC
              clear hoC hgC hlC
              refine ⟨(TS.refl _ _).trans (ts_grown HGC.out) (fun x hx => .inl (by simp [hx])), ?_⟩
              intro a' ha'
              simp only [Act.put, List.setIfInBounds_toArray, List.set_cons_zero, List.set_cons_succ] at ha'
              subst ha'
              refine sch_done ?_
              refine schB_leaf ?_
              have HTD := Lib.hid (show TS (optBlk NA ++ optBlk CA) w3 wD from ((((TS.of (F := optBlk NA ++ optBlk CA) HFA.out).trans (ts_grown HGN.out) (fun x hx => .inl (by simp [hx]))).then (TS.of HFC.out)).trans (ts_grown HGC.out) (fun x hx => .inl (by simp [hx]))))
              have HRWD := Lib.hid ((HTD.out.block g (Array.getElem?_eq_some_iff.1 HDg.out.row).1 (by have := HDg.out.disj; simp [this.2.1, this.2.2.1])).trans HDg.out.row)
              have HRWE := Lib.hid (heap_setCell_same wD g 1 _ _ (.slice NA' (D.M.length + 1) nc') HRWD.out)
              obtain ⟨F4, hF4, hD4, hT4⟩ := HDg.out.grow HFA.out HON.out HGN.out HLN.out HFC.out HOC.out HGC.out HLC.out hk0 hkn HNO.out HXL.out HX.out.1 HC3.out HX.out.2.1 HX.out.2.2
              have HRES := Lib.hid (show RRes w F g n { D with fuse := fz, M := cput D.M k xs } ((wD.setCell ⟨g, 1, none⟩ (.slice NA' (D.M.length + 1) nc')).setCell ⟨g, 2, none⟩ (.slice CA' (D.M.length + 1) cc')) from by
                refine ⟨F4, fun y hy => ?_, ⟨gb, c, NA', nc', CA', cc', _, by rw [HPUT.out]; exact hD4⟩, HT1.out.then ((TS.of HF3.out).then hT4)⟩
                rcases hF4 y hy with h | h | h
                · exact .inl h
                · exact .inr (Nat.le_trans HT1.out.size (HA3.out y h))
                · exact .inr (Nat.le_trans HT1.out.size (Nat.le_trans HF3.out.le h)))
              clear hF4 hD4 hT4
              repeat (refine sch_take (o := ?_) (v := ?_) (a' := ?_) (at_of hops.out ?_) ?_ (fun W hW => ?_) ?_ ?_; rotate_left 3; (focus (simp only [List.getElem?_toArray, List.getElem?_cons_zero, List.getElem?_cons_succ]; rfl)); (focus (rw [hops.out]; rfl)); (focus (go_simp; with_reducible rfl)); (focus (simp only [Act.put, List.setIfInBounds_toArray, List.set_cons_zero, List.set_cons_succ]; rfl)))
              obtain ⟨s0, s1, s2, s3⟩ := row4 HRWD.out
              have t1 := frozen_row _ HRWD.out 1
              (refine sch_store (o := ?_) (at_of hops.out ?_) ?_ 91 (.tmp 56) (.tmp 47) ?_ ?_ ⟨g, 1, none⟩ (.slice NA' (D.M.length + 1) nc') ?_ ?_ ?_ trivial ?_; rotate_left 1; (focus (simp only [List.getElem?_toArray, List.getElem?_cons_zero, List.getElem?_cons_succ]; rfl)); (focus (rw [hops.out]; rfl)); (focus rfl); (focus rfl); (focus rfl); (focus rfl); (focus (go_simp)))
              clear s0 s1 s2 s3 t1
              obtain ⟨s0, s1, s2, s3⟩ := row4 HRWE.out
              have t2 := frozen_row _ HRWE.out 2
              repeat (refine sch_take (o := ?_) (v := ?_) (a' := ?_) (at_of hops.out ?_) ?_ (fun W hW => ?_) ?_ ?_; rotate_left 3; (focus (simp only [List.getElem?_toArray, List.getElem?_cons_zero, List.getElem?_cons_succ]; rfl)); (focus (rw [hops.out]; rfl)); (focus (go_simp; with_reducible rfl)); (focus (simp only [Act.put, List.setIfInBounds_toArray, List.set_cons_zero, List.set_cons_succ]; rfl)))
              (refine sch_store (o := ?_) (at_of hops.out ?_) ?_ 44 (.tmp 58) (.tmp 54) ?_ ?_ ⟨g, 2, none⟩ (.slice CA' (D.M.length + 1) cc') ?_ ?_ ?_ trivial ?_; rotate_left 1; (focus (simp only [List.getElem?_toArray, List.getElem?_cons_zero, List.getElem?_cons_succ]; rfl)); (focus (rw [hops.out]; rfl)); (focus rfl); (focus rfl); (focus rfl); (focus rfl); (focus (go_simp)))
              refine sch_done ?_
              clear s0 s1 s2 s3 t2 hops
              go_wp2
              go_ret
              exact ⟨rfl, HRES.out⟩
          · rw [show cfiZ D.M k = (i : Int) from by unfold cfiZ; rw [h1]]
            obtain ⟨cb, A4, c4, rfl, r1, rf, -, -, -, -, -⟩ := hD.at h3
            obtain ⟨F4, hF4, hD4, hT4⟩ := hD.replaced h3 HXL.out HX.out.1 HC3.out HX.out.2.1 HX.out.2.2 rfl
            have hml : (D.M.length : Int) ≤ 32768 := by have := HMLN.out; simp only at this; omega
            have hil : (i : Int) < (D.M.length : Int) := by omega
            have HXX := Lib.hid (show x.length = 512 from (hD.ok.M _ (List.mem_of_getElem? h3)).2.2)
            have hi0 : ¬ (i : Int) < 0 := by omega
            have hi1 : (0 : Int) ≤ (i : Int) := by omega
            rw [HXX.out] at r1
            have HPUT := Lib.hid (h5 xs)
            have HRES := Lib.hid (show RRes w F g n { D with fuse := fz, M := cput D.M k xs } (w3.setCell ⟨cb, i, none⟩ (.slice A3 512 c3)) from by
              refine ⟨F4, fun y hy => ?_, ⟨gb, c, NA, nc, some ⟨cb, 0, none⟩, cc, V.set i (k, .slice A3 512 c3), by rw [HPUT.out]; exact hD4⟩, HT1.out.then ((TS.of HF3.out).then hT4)⟩
              rcases hF4 y hy with h | h
              · exact .inl h
              · exact .inr (Nat.le_trans HT1.out.size (HA3.out y h)))
            clear h1 h2 h3 h4 h5 hD hF4 hD4 hT4 HC
            go_wp2
            go_ret
            exact ⟨rfl, HRES.out⟩
      · rw [if_pos (.inr (.inr hlen))]
        have hne : ((xs.length : Int) != 512) = true := by simp; omega
        clear h hr hlen
        go_enter Try.func74, Try.ntmps74
        go_wp2_with fail
        refine (ref_Sectors H.out).mono ?_
        rintro e w1 ⟨rfl, rfl⟩
        go_wp2
        go_ret
        exact ⟨rfl, F, fun x hx => .inl hx, H.out, TS.refl _ _⟩
end
end Go.Proofs.Ytihljjfnjclefaa
/- The reference's disk: the walks through Flush, Crash. -/
set_option linter.unusedVariables false
set_option linter.unusedSimpArgs false
namespace Go.Proofs.Ytihljjfnjclefaa
open Go.ChangeShapes Go.WideShapes Go.ChangeAt Go.RowKit Go.MapKept
set_option maxRecDepth 100000

/-- x[k:], with the address. -/
theorem cut_from (gb c : Nat) (m k : Nat) (hk : k < m) (hc : m ≤ c) (W : World) :
    (Instr.slice 22 (.slice (some ⟨gb, 0, none⟩) m c) (some (.int .i64 (k : Int))) none none).run Try.prog W = .ok (.slice (some ⟨gb, k, none⟩) (m - k) (c - k)) W := by
  obtain ⟨i, hi, _, hsz, _⟩ := info_parts info_u8
  have hel : Try.prog.elem 22 = 5 := by simp [Program.elem, Try.underlying22]
  have hu : Try.prog.underlying 22 = some (.slice (Try.prog.elem 22)) := by rw [hel]; exact Try.underlying22
  have hck : c ≠ k := by omega
  rw [run_slice_l W 22 (some ⟨gb, 0, none⟩) m c hu .i64 (k : Int) (Int.natCast_nonneg _) (by omega), hel]
  simp [sizeOf, typeInfo, hi, hsz, sliced, Result.andThen, hck, Addr.add]
  intro e; exact e.symm
section
variable {w w' : World} {F F' : List Nat} {g n gb c : Nat} {NA : Option Addr} {nc : Nat} {CA : Option Addr} {cc : Nat} {V : List (Int × Value)} {D : DiskSt}
/-- The disk's bytes written. -/
theorem RD.copied (h : RD w F g n gb c NA nc CA cc V D) (b : List Byte) (hb : b.length = 512 * n) (ho : Own w' 0 (.slice (some ⟨gb, 0, none⟩) (512 * n) c) b) (htb : TB gb w w') : RD w' F g n gb c NA nc CA cc V { D with b := b } ∧ TS F w w' := by
  obtain ⟨d1, d2, d3, d4, d5, d6⟩ := h.disj
  have hts : TS [gb] w w' := TS.tb htb (by simp)
  refine ⟨⟨?_, ho, ?_, ?_, ?_, h.nodup, h.mem, fun x hx => Nat.lt_of_lt_of_le (h.lt x hx) hts.size, ⟨hb, h.ok.n1, h.ok.n2, h.ok.M, h.ok.f⟩, h.nd⟩, TS.tb htb (h.mem gb (by simp [rctl]))⟩
  · rw [hts.block g (Array.getElem?_eq_some_iff.1 h.row).1 (by simpa using d6)]; exact h.row
  · exact hts.ownV h.keys (fun b hb => by simp only [List.mem_singleton]; rintro rfl; exact d4 (own_out hb))
  · exact hts.ownV h.rows (fun b hb => by simp only [List.mem_singleton]; rintro rfl; exact d5 (own_out hb))
  · exact h.vals.move (fun A x hr hb => hts.rd hr (fun ad ha hf => (hb ad ha).2 (by simp only [List.mem_singleton] at hf; simp [rctl, hf]))) (fun b h h' => ⟨h, h'⟩)
/-- The cache made empty. -/
theorem RD.emptied (h : RD w F g n gb c NA nc CA cc V D) :
    RD ((w.setCell ⟨g, 1, none⟩ (.slice none 0 0)).setCell ⟨g, 2, none⟩ (.slice none 0 0)) F g n gb c none 0 none 0 [] { D with M := [] } ∧ TS F w ((w.setCell ⟨g, 1, none⟩ (.slice none 0 0)).setCell ⟨g, 2, none⟩ (.slice none 0 0)) := by
  obtain ⟨d1, d2, d3, d4, d5, d6⟩ := h.disj
  have hs1 : TS [g] w (w.setCell ⟨g, 1, none⟩ (.slice none 0 0)) := TS.tb (TB.set w 1 _) (by simp)
  have hs2 : TS [g] (w.setCell ⟨g, 1, none⟩ (.slice none 0 0)) ((w.setCell ⟨g, 1, none⟩ (.slice none 0 0)).setCell ⟨g, 2, none⟩ (.slice none 0 0)) := TS.tb (TB.set _ 2 _) (by simp)
  have hs := hs1.then hs2
  have hrow1 := heap_setCell_same w g 1 _ _ (.slice none 0 0) h.row
  have hrow2 := heap_setCell_same _ g 2 _ _ (.slice none 0 0) hrow1
  refine ⟨⟨?_, ?_, OwnV.nil _ _ _, OwnV.nil _ _ _, .nil, ?_, fun x hx => ?_, fun x hx => Nat.lt_of_lt_of_le (h.lt x hx) hs.size, ⟨h.ok.len, h.ok.n1, h.ok.n2, by simp, h.ok.f⟩, by simp⟩, ?_⟩
  · rw [hrow2]; rfl
  · exact hs.ownV h.bytes (fun b hb => by cases hb; simp only [List.mem_singleton]; exact fun e => d6 e.symm)
  · simp [rctl, optBlk, d6]
  · simp only [rctl, optBlk, Option.toList_none, List.map_nil, List.append_nil] at hx
    exact h.mem x (by simp only [rctl, List.mem_append]; exact .inl hx)
  · exact (TS.refl F w).trans hs (fun x hx => .inl (by simp only [List.mem_singleton] at hx; rw [hx]; exact h.mem g (by simp [rctl])))
end
section
variable {w : World} {F : List Nat} {g n : Nat} {D : DiskSt}
end
end Go.Proofs.Ytihljjfnjclefaa
