/- A disk, with its parts named; the order made longer; the cache written. -/
import Derived.Test.YtoidlmhebnlnbaaDskB
set_option linter.unusedVariables false
set_option linter.unusedSimpArgs false
namespace Go.Proofs.Ytoidlmhebnlnbaa
open Go.ChangeShapes Go.WideShapes Go.ChangeAt Go.RowKit Go.MapKept

def dctl (g gb gm : Nat) (O : Option Addr) (L : Option Nat) : List Nat := [g, gb, gm] ++ (optBlk O ++ L.toList)
/-- A disk's parts: its order may stand apart from its cache (between two steps of Write). -/
structure DskC (w : World) (F : List Nat) (g n gb c gm : Nat) (O : Option Addr) (oc : Nat) (L : Option Nat) (V : List (Int × Value)) (D : DiskSt) (ord : List Int) : Prop where
  row : w.heap[g]? = some (.cells #[.slice (some ⟨gb, 0, none⟩) (512 * n) c, .map (some gm), .slice O ord.length oc, .pointer (L.map fun l => ⟨l, 0, none⟩)] 71 (0, 0))
  bytes : Own w 0 (.slice (some ⟨gb, 0, none⟩) (512 * n) c) D.b
  map : MapAt w gm V
  vals : Vals w F (dctl g gb gm O L) V D.M
  order : OwnV 3 w 0 (.slice O ord.length oc) (ord.map fun k => .int .i64 k)
  fuse : FuseAt w L D.fuse
  nodup : (dctl g gb gm O L).Nodup
  mem : ∀ x ∈ dctl g gb gm O L, x ∈ F
  lt : ∀ x ∈ F, x < w.heap.size
theorem Dsk.parts {w : World} {F : List Nat} {g n : Nat} {D : DiskSt} (h : Dsk w F g n D) : ∃ gb c gm O oc L V, DskC w F g n gb c gm O oc L V D (D.M.map (·.1)) := by
  obtain ⟨gb, c, gm, O, oc, L, V, h1, h2, h3, h4, h5, h6, h7, h8, h9, h10⟩ := h
  refine ⟨gb, c, gm, O, oc, L, V, ⟨by rw [List.length_map]; exact h1, h2, h3, h4, ?_, h6, h7, h8, h10⟩⟩
  rw [List.length_map, List.map_map]; exact h5
theorem DskC.whole {w : World} {F : List Nat} {g n gb c gm : Nat} {O : Option Addr} {oc : Nat} {L : Option Nat} {V : List (Int × Value)} {D : DiskSt} (h : DskC w F g n gb c gm O oc L V D (D.M.map (·.1))) (hk : D.ok n) : Dsk w F g n D := by
  have h1 := h.row
  have h5 := h.order
  rw [List.length_map] at h1 h5
  rw [List.map_map] at h5
  exact ⟨gb, c, gm, O, oc, L, V, h1, h.bytes, h.map, h.vals, h5, h.fuse, h.nodup, h.mem, hk, h.lt⟩
section
variable {w w' : World} {F : List Nat} {g n gb c gm : Nat} {O : Option Addr} {oc : Nat} {L : Option Nat} {V : List (Int × Value)} {D : DiskSt} {ord : List Int}
/-- Something else has turned. -/
theorem DskC.ts {F' : List Nat} (h : DskC w F g n gb c gm O oc L V D ord) (k : TS F' w w') (hd : ∀ x ∈ F', x ∉ F) : DskC w' F g n gb c gm O oc L V D ord := by
  have hn : ∀ x ∈ dctl g gb gm O L, x ∉ F' := fun x hx hf => hd x hf (h.mem x hx)
  refine ⟨?_, ?_, ?_, ?_, ?_, ?_, h.nodup, h.mem, fun x hx => Nat.lt_of_lt_of_le (h.lt x hx) k.size⟩
  · rw [k.block g (Array.getElem?_eq_some_iff.1 h.row).1 (hn g (by simp [dctl]))]; exact h.row
  · exact k.ownV h.bytes (fun b hb => by cases hb; exact hn gb (by simp [dctl]))
  · exact h.map.ts k (hn gm (by simp [dctl]))
  · exact h.vals.move (fun A x hr hb => k.rd hr (fun ad ha hf => hd _ hf (hb ad ha).1)) (fun b h h' => ⟨h, h'⟩)
  · exact k.ownV h.order (fun b hb => by
      cases O with
      | none => cases hb
      | some ad => cases hb; exact hn _ (by simp [dctl, optBlk]))
  · have h6 := h.fuse
    unfold FuseAt at *
    revert h6
    generalize D.fuse = fz
    intro h6
    cases L with
    | none => cases fz with
      | none => trivial
      | some z => exact h6
    | some l => cases fz with
      | none => exact h6
      | some z =>
        simp only at h6 ⊢
        rw [k.block l (Array.getElem?_eq_some_iff.1 h6).1 (hn l (by simp [dctl]))]; exact h6
theorem DskC.fb (h : DskC w F g n gb c gm O oc L V D ord) (k : FB w w') : DskC w' F g n gb c gm O oc L V D ord := h.ts (F' := []) (TS.of k) (by simp)
theorem DskC.kept (h : DskC w F g n gb c gm O oc L V D ord) (hg : w.grownBy w' ((Value.slice O ord.length oc).ownBlock)) : w'.heap[g]? = some (.cells #[.slice (some ⟨gb, 0, none⟩) (512 * n) c, .map (some gm), .slice O ord.length oc, .pointer (L.map fun l => ⟨l, 0, none⟩)] 71 (0, 0)) := by
  rw [hg.block g (Array.getElem?_eq_some_iff.1 h.row).1 (fun e => by
    have hnd := h.nodup
    cases O with
    | none => cases e
    | some ad =>
      simp only [Value.ownBlock, Option.some.injEq] at e
      simp [dctl, optBlk, e] at hnd)]
  exact h.row
/-- The order made longer by one, and laid into the disk. -/
theorem DskC.longer (h : DskC w F g n gb c gm O oc L V D ord) (k : Int) (O' : Option Addr) (oc' : Nat) (ho : OwnV 3 w' 0 (.slice O' (ord.length + 1) oc') ((ord ++ [k]).map fun k => .int .i64 k))
    (hg : w.grownBy w' ((Value.slice O ord.length oc).ownBlock)) (hl : (Value.slice O' (ord.length + 1) oc').ownBlock = (Value.slice O ord.length oc).ownBlock ∨ (Value.slice O' (ord.length + 1) oc').ownBlock = some w.heap.size) :
    ∃ F', (∀ x ∈ F', x ∈ F ∨ w.heap.size ≤ x) ∧ DskC (w'.setCell ⟨g, 2, none⟩ (.slice O' (ord.length + 1) oc')) F' g n gb c gm O' oc' L V D (ord ++ [k]) ∧ TS F w (w'.setCell ⟨g, 2, none⟩ (.slice O' (ord.length + 1) oc')) := by
  have hts0 : TS (optBlk O) w w' := ⟨hg.os, hg.tape, hg.output, hg.size, fun x hx hn => hg.block x hx (fun e => hn (by
    cases O with
    | none => cases e
    | some ad => cases e; simp [optBlk]))⟩
  have hO' : ∀ x ∈ optBlk O', x ∈ optBlk O ∨ x = w.heap.size := by
    intro x hx
    cases O' with
    | none => cases hx
    | some ad =>
      simp only [optBlk, Option.toList_some, List.map_cons, List.map_nil, List.mem_singleton] at hx
      subst hx
      rcases hl with hl | hl
      · cases O with
        | none => cases hl
        | some ad' => left; simp only [Value.ownBlock, Option.some.injEq] at hl; simp [optBlk, hl]
      · right; simpa [Value.ownBlock] using hl
  have hctl : ∀ x ∈ dctl g gb gm O L, x < w.heap.size := fun x hx => h.lt x (h.mem x hx)
  have hnd := h.nodup
  unfold dctl at hnd
  have hgO : g ∉ optBlk O := fun hm => by
    simp only [List.cons_append, List.nil_append, List.nodup_cons] at hnd
    exact hnd.1 (by simp [hm])
  have hrow' : w'.heap[g]? = _ := (hts0.block g (Array.getElem?_eq_some_iff.1 h.row).1 hgO).trans h.row
  have hset : TS [g] w' (w'.setCell ⟨g, 2, none⟩ (.slice O' (ord.length + 1) oc')) := TS.tb (TB.set w' 2 _) (by simp)
  have hts : TS (g :: optBlk O) w (w'.setCell ⟨g, 2, none⟩ (.slice O' (ord.length + 1) oc')) := (hts0.trans (F := optBlk O) (F' := optBlk O) (TS.refl _ _) (fun x hx => .inl hx)) |> fun q => ⟨hset.os.trans q.os, hset.tape.trans q.tape, hset.output.trans q.output, Nat.le_trans q.size hset.size, fun x hx hn => (hset.block x (Nat.lt_of_lt_of_le hx q.size) (fun e => hn (by simp at e; simp [e]))).trans (q.block x hx (fun e => hn (by simp [e])))⟩
  have hx1 : ∀ x ∈ [gb, gm] ++ L.toList, x ∉ g :: optBlk O := by
    intro x hx hm
    simp only [List.cons_append, List.nil_append, List.nodup_cons, List.mem_cons, List.mem_append, not_or] at hnd
    obtain ⟨⟨a1, a2, a3, a4⟩, ⟨b1, b2, b3⟩, ⟨c1, c2⟩, d⟩ := hnd
    rw [List.nodup_append] at d
    simp only [List.mem_cons] at hm
    simp only [List.cons_append, List.nil_append, List.mem_cons] at hx
    rcases hx with rfl | rfl | hx
    · rcases hm with rfl | hm
      · exact a1 rfl
      · exact b2 hm
    · rcases hm with rfl | hm
      · exact a2 rfl
      · exact c1 hm
    · rcases hm with rfl | hm
      · exact a4 hx
      · exact d.2.2 x hm x hx rfl
  refine ⟨optBlk O' ++ F, ?_, ⟨?_, ?_, ?_, ?_, ?_, ?_, ?_, ?_, ?_⟩, hts.trans (F' := []) (TS.refl _ _) (by simp) |> fun q => ⟨q.os, q.tape, q.output, q.size, fun x hx hn => q.block x hx (fun e => hn (by
    simp only [List.mem_cons] at e
    rcases e with rfl | e
    · exact h.mem _ (by simp [dctl])
    · exact h.mem _ (by simp [dctl, e])))⟩⟩
  · intro x hx
    simp only [List.mem_append] at hx
    rcases hx with hx | hx
    · rcases hO' x hx with hx | hx
      · exact .inl (h.mem x (by simp [dctl, hx]))
      · exact .inr (by omega)
    · exact .inl hx
  · rw [heap_setCell_same _ _ _ _ _ _ hrow']
    simp
  · exact hts.ownV h.bytes (fun b hb => by cases hb; exact hx1 gb (by simp))
  · exact h.map.ts hts (hx1 gm (by simp))
  · refine h.vals.move (fun A x hr hb => hts.rd hr (fun ad ha hf => (hb ad ha).2 ?_)) (fun b hb hb' => ⟨by simp [hb], fun hm => ?_⟩)
    · simp only [List.mem_cons] at hf
      rcases hf with hf | hf
      · simp [dctl, hf]
      · simp [dctl, hf]
    · simp only [dctl, List.mem_append] at hm hb'
      rcases hm with hm | hm | hm
      · exact hb' (.inl hm)
      · rcases hO' b hm with hm | hm
        · exact hb' (.inr (.inl hm))
        · have := h.lt b hb; omega
      · exact hb' (.inr (.inr hm))
  · rw [List.length_append]
    have hOg : ∀ b, (Value.slice O' (ord.length + 1) oc').ownBlock = some b → b ∉ [g] := by
      intro b hb hm
      simp only [List.mem_singleton] at hm
      subst hm
      have hbm : b ∈ optBlk O' := by
        cases O' with
        | none => cases hb
        | some ad => cases hb; simp [optBlk]
      rcases hO' b hbm with hm | hm
      · exact hgO hm
      · have := hctl b (by simp [dctl]); omega
    exact hset.ownV ho hOg
  · have h6 := h.fuse
    unfold FuseAt at *
    revert h6
    generalize D.fuse = fz
    intro h6
    cases L with
    | none => cases fz with
      | none => trivial
      | some z => exact h6
    | some l => cases fz with
      | none => exact h6
      | some z =>
        simp only at h6 ⊢
        rw [hts.block l (Array.getElem?_eq_some_iff.1 h6).1 (hx1 l (by simp))]; exact h6
  · have hO1 : (optBlk O').Nodup := by cases O' <;> simp [optBlk]
    simp only [dctl, List.cons_append, List.nil_append, List.nodup_cons, List.mem_cons, List.mem_append, not_or] at hnd ⊢
    obtain ⟨⟨a1, a2, a3, a4⟩, ⟨b1, b2, b3⟩, ⟨c1, c2⟩, d⟩ := hnd
    rw [List.nodup_append] at d ⊢
    have hno : ∀ x, x < w.heap.size → x ∉ optBlk O → x ∉ optBlk O' := fun x hx hn hm => by
      rcases hO' x hm with h | h
      · exact hn h
      · omega
    refine ⟨⟨a1, a2, hno g (hctl g (by simp [dctl])) a3, a4⟩, ⟨b1, hno gb (hctl gb (by simp [dctl])) b2, b3⟩, ⟨hno gm (hctl gm (by simp [dctl])) c1, c2⟩, hO1, d.2.1, fun a ha b hb => ?_⟩
    rintro rfl
    exact hno a (hctl a (by simp [dctl, hb])) (fun hm => d.2.2 a hm a hb rfl) ha
  · intro x hx
    simp only [dctl, List.mem_append] at hx ⊢
    rcases hx with hx | hx | hx
    · exact .inr (h.mem x (by simp [dctl] at hx ⊢; rcases hx with hx | hx | hx <;> simp [hx]))
    · exact .inl hx
    · exact .inr (h.mem x (by simp [dctl, hx]))
  · intro x hx
    simp only [List.mem_append] at hx
    have hsz : w.heap.size ≤ (w'.setCell ⟨g, 2, none⟩ (.slice O' (ord.length + 1) oc')).heap.size := hts.size
    rcases hx with hx | hx
    · cases O' with
      | none => cases hx
      | some ad =>
        simp only [optBlk, Option.toList_some, List.map_cons, List.map_nil, List.mem_singleton] at hx
        subst hx
        have := (OwnV.base ho ad.block rfl).2
        simpa using this
    · have := h.lt x hx; omega
/-- A sector's bytes laid into the cache. -/
theorem DskC.stored (h : DskC w F g n gb c gm O oc L V D ord) (k : Int) {A : Option Addr} {ca : Nat} {x : List Byte} (hr : Rd w A x) (h1 : x.length ≤ ca) (h2 : ca ≤ maxLen) (hA : ∀ ad, A = some ad → ad.block < w.heap.size ∧ ad.block ∉ F)
    (hup : MapAt w' gm (mput V k (.slice A x.length ca))) (htb : TB gm w w') :
    ∃ F', (∀ y ∈ F', y ∈ F ∨ y ∈ optBlk A) ∧ DskC w' F' g n gb c gm O oc L (mput V k (.slice A x.length ca)) { D with M := cput D.M k x } ord ∧ TS F w w' := by
  have hts : TS [gm] w w' := TS.tb htb (by simp)
  have hnd := h.nodup
  unfold dctl at hnd
  have hne : ∀ y ∈ [g, gb] ++ (optBlk O ++ L.toList), y ∉ [gm] := by
    intro y hy hm
    simp only [List.mem_singleton] at hm
    subst hm
    simp only [List.cons_append, List.nil_append, List.nodup_cons, List.mem_cons, List.mem_append, not_or] at hnd hy
    obtain ⟨⟨a1, a2, a3, a4⟩, ⟨b1, b2, b3⟩, ⟨c1, c2⟩, d⟩ := hnd
    rcases hy with rfl | rfl | hy | hy
    · exact a2 rfl
    · exact b1 rfl
    · exact c1 hy
    · exact c2 hy
  have hAF : ∀ ad, A = some ad → ad.block ∉ dctl g gb gm O L := fun ad ha hm => (hA ad ha).2 (h.mem _ hm)
  refine ⟨optBlk A ++ F, fun y hy => by simp only [List.mem_append] at hy; exact hy.symm, ⟨?_, ?_, hup, ?_, ?_, ?_, h.nodup, fun y hy => by simp [h.mem y hy], ?_⟩, TS.tb htb (h.mem gm (by simp [dctl]))⟩
  · rw [hts.block g (Array.getElem?_eq_some_iff.1 h.row).1 (hne g (by simp))]; exact h.row
  · exact hts.ownV h.bytes (fun b hb => by cases hb; exact hne gb (by simp))
  · refine Vals.put ?_ k (hts.rd hr (fun ad ha hm => hAF ad ha (by simp at hm; simp [dctl, hm]))) h1 h2 (fun ad ha => ⟨by simp [optBlk, ha], hAF ad ha⟩)
    exact h.vals.move (fun A x hr hb => hts.rd hr (fun ad ha hf => (hb ad ha).2 (by simp at hf; simp [dctl, hf]))) (fun b hb hb' => ⟨by simp [hb], hb'⟩)
  · exact hts.ownV h.order (fun b hb => by
      cases O with
      | none => cases hb
      | some ad => cases hb; exact hne _ (by simp [optBlk]))
  · have h6 := h.fuse
    unfold FuseAt at *
    simp only
    revert h6
    generalize D.fuse = fz
    intro h6
    cases L with
    | none => cases fz with
      | none => trivial
      | some z => exact h6
    | some l => cases fz with
      | none => exact h6
      | some z =>
        simp only at h6 ⊢
        rw [hts.block l (Array.getElem?_eq_some_iff.1 h6).1 (hne l (by simp))]; exact h6
  · intro y hy
    simp only [List.mem_append] at hy
    rcases hy with hy | hy
    · cases A with
      | none => cases hy
      | some ad =>
        simp only [optBlk, Option.toList_some, List.map_cons, List.map_nil, List.mem_singleton] at hy
        subst hy
        exact Nat.lt_of_lt_of_le (hA ad rfl).1 hts.size
    · exact Nat.lt_of_lt_of_le (h.lt y hy) hts.size
end
theorem cput_none {M : List (Int × List Byte)} {k : Int} (h : cget M k = none) (x : List Byte) : (cput M k x).map (·.1) = M.map (·.1) ++ [k] := by
  induction M with
  | nil => rfl
  | cons p M ih =>
    obtain ⟨pk, pv⟩ := p
    rw [cget] at h
    rw [cput]
    by_cases h0 : pk = k
    · rw [if_pos h0] at h; cases h
    · rw [if_neg h0] at h ⊢; simp [ih h]
theorem cput_some {M : List (Int × List Byte)} {k : Int} {y : List Byte} (h : cget M k = some y) (x : List Byte) : (cput M k x).map (·.1) = M.map (·.1) := by
  induction M with
  | nil => cases h
  | cons p M ih =>
    obtain ⟨pk, pv⟩ := p
    rw [cget] at h
    rw [cput]
    by_cases h0 : pk = k
    · rw [if_pos h0]; simp [h0]
    · rw [if_neg h0] at h ⊢; simp [ih h]
theorem cput_mem {M : List (Int × List Byte)} {k : Int} {x : List Byte} : ∀ p ∈ cput M k x, p = (k, x) ∨ p ∈ M := by
  induction M with
  | nil => intro p hp; simp [cput] at hp; exact .inl hp
  | cons q M ih =>
    obtain ⟨pk, pv⟩ := q
    intro p hp
    rw [cput] at hp
    by_cases h0 : pk = k
    · rw [if_pos h0] at hp
      simp only [List.mem_cons] at hp
      rcases hp with rfl | hp
      · exact .inl rfl
      · exact .inr (List.mem_cons_of_mem _ hp)
    · rw [if_neg h0] at hp
      simp only [List.mem_cons] at hp
      rcases hp with rfl | hp
      · exact .inr List.mem_cons_self
      · rcases ih p hp with h | h
        · exact .inl h
        · exact .inr (List.mem_cons_of_mem _ h)
theorem DiskSt.ok.put {D : DiskSt} {n : Nat} (h : D.ok n) {k : Int} {x : List Byte} (h0 : 0 ≤ k) (h1 : k < n) (h2 : x.length = 512) : DiskSt.ok { D with M := cput D.M k x } n :=
  ⟨h.len, h.n1, h.n2, fun p hp => by
    rcases cput_mem p hp with rfl | hp
    · exact ⟨h0, h1, h2⟩
    · exact h.M p hp, h.f⟩
end Go.Proofs.Ytoidlmhebnlnbaa
