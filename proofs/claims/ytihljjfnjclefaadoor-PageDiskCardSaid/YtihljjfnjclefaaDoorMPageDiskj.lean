/- Walks and laws that the claim's last text stands on, several texts in one file: Mpr, DskR, PgO, Rr, CrcR, RgA. Under the hypotheses that each theorem states. -/
import Derived.Maps.RangeWalk
import Derived.Test.YtihljjfnjclefaaDoorMPageDiska
import Derived.Test.YtihljjfnjclefaaDoorMPageDiskb
import Derived.Test.YtihljjfnjclefaaDoorMPageDiskc
import Derived.Test.YtihljjfnjclefaaDoorMPageDiskd
import Derived.Test.YtihljjfnjclefaaDoorMPageDiske
import Derived.Test.YtihljjfnjclefaaDoorMPageDiskf
import Derived.Test.YtihljjfnjclefaaDoorMPageDiskg
import Derived.Test.YtihljjfnjclefaaDoorMPageDiskh
import Derived.Test.YtihljjfnjclefaaDoorMPageDiski
/- A loop over a map whose keys are ints. -/
set_option linter.unusedVariables false
set_option linter.unusedSimpArgs false
namespace Go.Proofs.YtihljjfnjclefaaDoor
open Go.ChangeShapes Go.WideShapes Go.ChangeAt Go.RowKit Go.MapKept

theorem map_inj_of_nodup {α β : Type} {f : α → β} : ∀ {l : List α}, (l.map f).Nodup → ∀ {x y}, x ∈ l → y ∈ l → f x = f y → x = y
  | [], _, _, _, hx, _, _ => by cases hx
  | a :: l, hn, x, y, hx, hy, he => by
    rw [List.map_cons, List.nodup_cons] at hn
    rcases List.mem_cons.1 hx with rfl | hx'
    · rcases List.mem_cons.1 hy with rfl | hy'
      · rfl
      · exact absurd (he ▸ List.mem_map.2 ⟨y, hy', rfl⟩) hn.1
    · rcases List.mem_cons.1 hy with rfl | hy'
      · exact absurd (he ▸ List.mem_map.2 ⟨x, hx', rfl⟩) hn.1
      · exact map_inj_of_nodup hn.2 hx' hy' he
/-- Block r goes over the map in block m; `left`: who is still to come. -/
def MapIt (w : World) (m r : Nat) (V : List (Int × Value)) (left : Int → Prop) (cnt : Nat) : Prop :=
  ∃ es clock seen c0, w.heap[m]? = some (.map es clock) ∧ es.toList.map (fun e => (e.key, e.val)) = V.map (fun p => (Value.int .i64 p.1, p.2)) ∧ (∀ e ∈ es.toList, e.born < clock) ∧ (es.toList.map (·.born)).Nodup ∧ (V.map (·.1)).Nodup ∧
    w.heap[r]? = some (.mapIter (some m) clock seen c0) ∧ clock ≤ c0 ∧ (leftOf es seen).size = cnt ∧ ∀ e ∈ es.toList, ∀ k, e.key = .int .i64 k → (left k ↔ seen.contains e.born = false)
theorem MapIt.lt {w : World} {m r : Nat} {V : List (Int × Value)} {left : Int → Prop} {cnt : Nat} (h : MapIt w m r V left cnt) : m < w.heap.size ∧ r < w.heap.size ∧ r ≠ m := by
  obtain ⟨es, clock, seen, c0, h1, -, -, -, -, h2, -⟩ := h
  exact ⟨(Array.getElem?_eq_some_iff.1 h1).1, (Array.getElem?_eq_some_iff.1 h2).1, fun e => by subst e; rw [h1] at h2; cases h2⟩
theorem MapIt.move {w w' : World} {m r : Nat} {V : List (Int × Value)} {left : Int → Prop} {cnt : Nat} (h : MapIt w m r V left cnt) (hm : w'.heap[m]? = w.heap[m]?) (hr : w'.heap[r]? = w.heap[r]?) : MapIt w' m r V left cnt := by
  obtain ⟨es, clock, seen, c0, h1, h2, h3, h4, h5, h6, h7⟩ := h
  exact ⟨es, clock, seen, c0, hm.trans h1, h2, h3, h4, h5, hr.trans h6, h7⟩
theorem MapIt.map {w : World} {m r : Nat} {V : List (Int × Value)} {left : Int → Prop} {cnt : Nat} (h : MapIt w m r V left cnt) : MapAt w m V := by
  obtain ⟨es, clock, seen, c0, h1, h2, h3, h4, h5, h6, h7⟩ := h
  exact ⟨es, clock, h1, h2, h3, h4, h5⟩
/-- How many are left, read off the world. -/
theorem MapIt.left_eq {w : World} {m r : Nat} {V : List (Int × Value)} {left : Int → Prop} {cnt : Nat} (h : MapIt w m r V left cnt) : w.rangeLeft m r = cnt := by
  obtain ⟨es, clock, seen, c0, h1, h2, h3, h4, h5, h6, h7, h8, h9⟩ := h
  simp only [World.rangeLeft, h1, h6]; exact h8
section
variable {P : Program} {t k e : TypeId} (ht : P.underlying t = some (.map k e))
include ht
theorem map_range {w : World} {m : Nat} {V : List (Int × Value)} (h : MapAt w m V) :
    ∃ w', (Instr.range t (.map (some m))).run P w = .ok (.pointer (some ⟨w.heap.size, 0, none⟩)) w' ∧ (∃ cnt, MapIt w' m w.heap.size V (fun _ => True) cnt) ∧ FB w w' := by
  have hlt := h.lt
  obtain ⟨es, clock, h1, h2, h3, h4, h5⟩ := h
  refine ⟨_, run_range_map w t k e m es clock ht h1, ⟨_, es, clock, #[], clock, ?_, h2, h3, h4, h5, heap_alloc_new _ _, Nat.le_refl _, rfl, fun e he k hk => by simp⟩, (FB.refl w).alloc _⟩
  rw [((FB.refl w).alloc (.mapIter (some m) clock #[] clock)).block m hlt]; exact h1
end
theorem map_next {P : Program} {w : World} {m r : Nat} {V : List (Int × Value)} {left : Int → Prop} {cnt : Nat} (h : MapIt w m r V left cnt) :
    (cnt = 0 ∧ (∀ p ∈ V, ¬ left p.1) ∧ ∀ ty, (Instr.next (.pointer (some ⟨r, 0, none⟩)) false ty).run P w = .ok (.tuple #[.bool false]) w) ∨
    ∃ k v w' cnt', (k, v) ∈ V ∧ left k ∧ (∀ ty, (Instr.next (.pointer (some ⟨r, 0, none⟩)) false ty).run P w = .ok (.tuple #[.bool true, .int .i64 k, v]) w') ∧
      MapIt w' m r V (fun x => left x ∧ x ≠ k) cnt' ∧ cnt' < cnt ∧ TB r w w' ∧ (Instr.entry (.pointer (some ⟨r, 0, none⟩))).run P w' = .ok (.tuple #[.int .i64 k, v]) w' := by
  have hne := h.lt.2.2
  obtain ⟨es, clock, seen, c0, h1, h2, h3, h4, h5, h6, h7, h8, h9⟩ := h
  have hsome : ∀ p ∈ V, ∃ x ∈ es.toList, x.key = .int .i64 p.1 ∧ x.val = p.2 := fun p hp => by
    have : (Value.int .i64 p.1, p.2) ∈ es.toList.map (fun e => (e.key, e.val)) := by rw [h2]; exact List.mem_map.2 ⟨p, hp, rfl⟩
    obtain ⟨x, hx, hx2⟩ := List.mem_map.1 this
    simp only [Prod.mk.injEq] at hx2
    exact ⟨x, hx, hx2.1, hx2.2⟩
  have hback : ∀ x ∈ es.toList, ∃ p ∈ V, x.key = .int .i64 p.1 ∧ x.val = p.2 := fun x hx => by
    have : (x.key, x.val) ∈ V.map (fun p => (Value.int .i64 p.1, p.2)) := by rw [← h2]; exact List.mem_map.2 ⟨x, hx, rfl⟩
    obtain ⟨p, hp, hp2⟩ := List.mem_map.1 this
    simp only [Prod.mk.injEq] at hp2
    exact ⟨p, hp, hp2.1.symm, hp2.2.symm⟩
  have hkn : (es.toList.map (·.key)).Nodup := by
    have e1 : es.toList.map (·.key) = V.map (fun p => Value.int .i64 p.1) := by
      have := congrArg (List.map Prod.fst) h2
      simpa [List.map_map, Function.comp_def] using this
    rw [e1]
    refine List.pairwise_map.2 (List.Pairwise.imp (fun h e => h ?_) (List.pairwise_map.1 h5))
    injection e
  rcases Nat.eq_zero_or_pos cnt with h0 | h0
  · left
    refine ⟨h0, fun p hp hl => ?_, fun ty => ?_⟩
    · obtain ⟨x, hx, hk, -⟩ := hsome p hp
      have := (h9 x hx p.1 hk).1 hl
      rw [all_seen es seen (h8.trans h0) x hx] at this
      cases this
    · rcases run_next_at (P := P) w ty r m clock c0 seen es clock h6 h1 h3 h7 with ⟨-, hrun⟩ | ⟨x, hx, -⟩
      · exact hrun
      · have : 0 < (leftOf es seen).size := by
          rw [← Array.length_toList]; exact List.length_pos_of_mem hx
        omega
  · right
    have key : ∀ ty, ∃ x ∈ (leftOf es seen).toList, ∃ w1 : World, (w1 = w ∨ w1 = w.drew) ∧ (Instr.next (.pointer (some ⟨r, 0, none⟩)) false ty).run P w = .ok (.tuple #[.bool true, x.key, x.val]) (Go.ChangeMaps.setBlock w1 r (.mapIter (some m) clock (seen.push x.born) clock)) := fun ty => by
      rcases run_next_at (P := P) w ty r m clock c0 seen es clock h6 h1 h3 h7 with ⟨e0, -⟩ | h
      · omega
      · exact h
    obtain ⟨x, hx, w1, hw1, hrun⟩ := key 0
    have hall : ∀ ty, (Instr.next (.pointer (some ⟨r, 0, none⟩)) false ty).run P w = (Instr.next (.pointer (some ⟨r, 0, none⟩)) false 0).run P w := fun ty => rfl
    obtain ⟨hxm, hxs⟩ := mem_left hx
    obtain ⟨p, hp, hpk, hpv⟩ := hback x hxm
    have hb1 : w1.heap = w.heap := by rcases hw1 with rfl | rfl <;> rfl
    have hr1 : w1.heap[r]? = some (.mapIter (some m) clock seen c0) := by rw [hb1]; exact h6
    have hset := heap_set (o' := .mapIter (some m) clock (seen.push x.born) clock) hr1
    have hm1 : (Go.ChangeMaps.setBlock w1 r (.mapIter (some m) clock (seen.push x.born) clock)).heap[m]? = some (.map es clock) := (hset.2 m (fun e => hne e.symm)).trans (by rw [hb1]; exact h1)
    have hen := run_entry_at (P := P) _ r m clock seen es clock x hset.1 hm1 hxm h4
    rw [hpk, hpv] at hrun hen
    refine ⟨p.1, p.2, _, _, hp, (h9 x hxm p.1 hpk).2 hxs, fun ty => (hall ty).trans hrun, ⟨es, clock, seen.push x.born, clock, hm1, h2, h3, h4, h5, hset.1, Nat.le_refl _, rfl, fun y hy ky hky => ?_⟩, h8 ▸ left_shrinks es seen x hx, ?_, hen⟩
    · show (left ky ∧ ky ≠ p.1) ↔ _
      rw [contains_push, h9 y hy ky hky]
      by_cases hb : y.born = x.born
      · obtain rfl := map_inj_of_nodup h4 hy hxm hb
        rw [hpk] at hky
        injection hky with _ e1
        subst e1
        simp
      · have hk : ky ≠ p.1 := fun e => hb (by rw [map_inj_of_nodup hkn hy hxm (by rw [hky, hpk, e])])
        simp [hb, hk]
    · rcases hw1 with rfl | rfl <;> exact ⟨rfl, rfl, rfl, by simp [Go.ChangeMaps.setBlock], fun i _ hi => hset.2 i (fun e1 => hi (by rw [e1]))⟩
theorem wpList_next_run {P : Program} {ops : Array Oper} {rest : List Oper} {o : Oper} {a : Act} {w : World} {Q : Exit → Act → World → Prop} (hgd : o.guard = none) (x : Operand)
    (ho : o.op = Op.next x false) (v : Value) (hx : a.eval x = v) {v' : Value} {w' : World}
    (hr : ∀ ty, (Instr.next v false ty).run P w = .ok v' w') (h : wpList P ops Q rest (a.put o.dst v') w') : wpList P ops Q (o :: rest) a w :=
  wpList_plain hgd fun _ hK => by
    unfold Oper.wp execOp
    simp only [ho, Sem.run_bind, Sem.run_pure, Result.andThen_ok, hx, hr]
    exact hK _ _ h
theorem wpList_range_run {P : Program} {ops : Array Oper} {rest : List Oper} {o : Oper} {a : Act} {w : World} {Q : Exit → Act → World → Prop} (hgd : o.guard = none) (x : Operand) (t : TypeId)
    (ho : o.op = Op.range t x) (v : Value) (hx : a.eval x = v) {v' : Value} {w' : World}
    (hr : (Instr.range t v).run P w = .ok v' w') (h : wpList P ops Q rest (a.put o.dst v') w') : wpList P ops Q (o :: rest) a w :=
  wpList_plain hgd fun _ hK => by
    unfold Oper.wp execOp
    simp only [ho, Sem.run_bind, Sem.run_pure, Result.andThen_ok, hx, hr]
    exact hK _ _ h
end Go.Proofs.YtihljjfnjclefaaDoor
/- A disk: the walk through Flush. -/
set_option linter.unusedVariables false
set_option linter.unusedSimpArgs false
namespace Go.Proofs.YtihljjfnjclefaaDoor
open Go.ChangeShapes Go.WideShapes Go.ChangeAt Go.RowKit Go.MapKept

theorem mget_of_mem : ∀ {V : List (Int × Value)}, (V.map (·.1)).Nodup → ∀ {k : Int} {v : Value}, (k, v) ∈ V → mget V k = some v
  | [], _, _, _, h => by cases h
  | (k', v') :: V, hn, k, v, h => by
    rw [List.map_cons, List.nodup_cons] at hn
    rw [mget]
    rcases List.mem_cons.1 h with e | h'
    · cases e; rw [if_pos rfl]
    · rw [if_neg (fun e => hn.1 (List.mem_map.2 ⟨(k, v), h', e.symm⟩))]
      exact mget_of_mem hn.2 h'
/-- What the bytes are when some are still to come. -/
def FlushAt (M : List (Int × List Byte)) (b b' : List Byte) (n : Nat) (left : Int → Prop) : Prop :=
  b'.length = 512 * n ∧ ∀ k, k < n → (left (k : Int) → sec b' k = sec b k) ∧ (¬ left (k : Int) → sec b' k = (cget M k).getD (sec b k))
theorem FlushAt.step {M : List (Int × List Byte)} {b b' : List Byte} {n : Nat} {left : Int → Prop} (h : FlushAt M b b' n left) {k : Nat} (hk : k < n) {x : List Byte} (hx : x.length = 512) (hc : cget M (k : Int) = some x) :
    FlushAt M b (splice b' (512 * k) x) n (fun y => left y ∧ y ≠ (k : Int)) := by
  refine ⟨by rw [length_splice _ _ _ (by rw [h.1]; omega)]; exact h.1, fun k' hk' => ?_⟩
  by_cases e : k' = k
  · subst e
    refine ⟨fun h' => absurd rfl h'.2, fun _ => ?_⟩
    rw [sec_splice_same h.1 hk (by omega), List.drop_of_length_le (by rw [sec_len h.1 hk]; omega), List.append_nil, hc]; rfl
  · rw [sec_splice_other h.1 hk (by omega) e]
    have := h.2 k' hk'
    exact ⟨fun h' => this.1 h'.1, fun h' => this.2 (fun hl => h' ⟨hl, by omega⟩)⟩
theorem FlushAt.done {M : List (Int × List Byte)} {b b' : List Byte} {n : Nat} {left : Int → Prop} (h : FlushAt M b b' n left) (hb : b.length = 512 * n) (hM : ∀ p ∈ M, 0 ≤ p.1 ∧ p.1 < n ∧ p.2.length = 512) (hn : (M.map (·.1)).Nodup) (hl : ∀ p ∈ M, ¬ left p.1) : b' = flushB M b :=
  flushB_of hb h.1 hM hn (fun k hk => by
    have := h.2 k hk
    by_cases e : left (k : Int)
    · rw [this.1 e]
      cases hc : cget M (k : Int) with
      | none => rfl
      | some x =>
        obtain ⟨i, hi, hx⟩ := cget_some_at hc
        exact absurd e (hl _ (List.mem_of_getElem? hx))
    · exact this.2 e)
/-- What Flush returns, and leaves. -/
def sdFlush (D : DiskSt) : Int × DiskSt := if (ffail D.fuse).1 then (8, { D with fuse := (ffail D.fuse).2 }) else (0, ⟨flushB D.M D.b, [], (ffail D.fuse).2⟩)
set_option maxRecDepth 100000 in
set_option maxHeartbeats 2000000 in
theorem dsk_Flush {w : World} {F : List Nat} {g n : Nat} {D : DiskSt} (h : Dsk w F g n D) :
    Calls Tryd.prog 25 #[.pointer (some ⟨g, 0, none⟩)] w fun e w' => e = .returned (.int .i64 (sdFlush D).1) ∧ Dsk w' F g n (sdFlush D).2 ∧ TS F w w' := by
  have H := Lib.hid h
  have HFA := Lib.hid (dsk_fails h)
  have HOK := Lib.hid h.ok
  unfold sdFlush
  cases hff : (ffail D.fuse).1 with
  | true =>
    rw [if_pos rfl]
    rw [hff] at HFA
    clear h hff
    go_enter Tryd.func25, Tryd.ntmps25
    go_wp2_with fail
    refine (dsk_made H.out).mono ?_
    rintro e w1 ⟨rfl, rfl⟩
    go_wp2_with fail
    refine HFA.out.mono ?_
    rintro e w1 ⟨rfl, hd, ht⟩
    have HD1 := Lib.hid hd
    have HT1 := Lib.hid ht
    clear hd ht
    go_wp2
    go_ret
    exact ⟨rfl, HD1.out, HT1.out⟩
  | false =>
    rw [if_neg (by simp)]
    rw [hff] at HFA
    generalize (ffail D.fuse).2 = fz at *
    clear h hff
    go_enter Tryd.func25, Tryd.ntmps25
    go_wp2_with fail
    refine (dsk_made H.out).mono ?_
    rintro e w1 ⟨rfl, rfl⟩
    go_wp2_with fail
    refine HFA.out.mono ?_
    rintro e w1 ⟨rfl, hd, ht⟩
    have HD1 := Lib.hid hd
    have HT1 := Lib.hid ht
    clear ht
    obtain ⟨gb, c, gm, O, oc, L, V, hp⟩ := hd.parts
    obtain ⟨p0, p1, p2, p3⟩ := row4 hp.row
    rw [List.length_map] at p2
    obtain ⟨wi, hrange, ⟨cnt0, hit⟩, hfi⟩ := map_range Tryd.underlying74 hp.map
    have HIT := Lib.hid hit
    have HP1 := Lib.hid (hp.ts (TS.of (F := []) hfi) (by simp))
    have HRN := Lib.hid (show w1.heap.size ∉ F from fun hm => by have := hp.lt _ hm; omega)
    have HTI := Lib.hid (TS.of (F := F) hfi)
    have HNM := Lib.hid hp.nodupM
    have HFL := Lib.hid (show FlushAt D.M D.b D.b n (fun _ => True) from ⟨HOK.out.len, fun k hk => ⟨fun _ => rfl, fun h => absurd trivial h⟩⟩)
    clear hd hp hit hfi
    go_wp2_with (at_range; refine wpList_range_run rfl _ _ rfl _ rfl hrange ?_)
    go_frame
    clear hrange p0 p1 p2 p3
    go_loopw [] (fun wr => ∃ left cnt b', Hid (MapIt wr gm w1.heap.size V left cnt) ∧ Hid (DskC wr F g n gb c gm O oc L V { D with b := b', fuse := fz } (D.M.map (·.1))) ∧ Hid (TS F w1 wr) ∧ Hid (FlushAt D.M D.b b' n left)) (fun wr => wr.rangeLeft gm w1.heap.size)
    case atStart => exact ⟨_, _, _, HIT.out, HP1.out, HTI.out, HFL.out⟩
    case round =>
      obtain ⟨left, cnt, b', HI, HC, HT, HFB⟩ := hrel
      rcases map_next (P := Tryd.prog) HI.out with ⟨hc0, hno, hrun⟩ | ⟨k, v, w2, cnt2, hmem, hlk, hrun, hit2, hlt, htb, hen⟩
      · have hkeys := HC.out.vals.keys
        have hb' : b' = flushB D.M D.b := HFB.out.done HOK.out.len HOK.out.M HNM.out (fun p hp hl => by
          have : p.1 ∈ V.map (·.1) := by rw [hkeys]; exact List.mem_map.2 ⟨p, hp, rfl⟩
          obtain ⟨q, hq, e⟩ := List.mem_map.1 this
          exact hno q hq (by rw [e]; exact hl))
        have HB' := Lib.hid hb'
        have hDC := HC.out
        obtain ⟨q0, q1, q2, q3⟩ := row4 hDC.row
        obtain ⟨w2, hcl, hm2, htb2⟩ := map_clear Tryd.underlying74 hDC.map 0
        obtain ⟨hrow2, hD2, hT2⟩ := hDC.cleared ⟨HFB.out.1, HOK.out.n1, HOK.out.n2, HOK.out.M, HD1.out.ok.f⟩ hm2 htb2
        obtain ⟨s0, s1, s2, s3⟩ := row4 hrow2
        have sf2 := frozen_row _ hrow2 2
        have HD2 := Lib.hid hD2
        have HT2 := Lib.hid (HT1.out.then (HT.out.then hT2))
        clear hDC hrow2 hD2 hT2 hm2 htb2 hb' hno hkeys
        go_wp2_with (at_next; refine wpList_next_run rfl _ rfl _ rfl hrun ?_)
        go_wp2_with (refine wpList_clear_run rfl _ _ rfl _ rfl hcl ?_)
        go_ret
        exact ⟨rfl, by rw [← HB'.out]; exact HD2.out, HT2.out⟩
      · have htr : TS [w1.heap.size] wr w2 := TS.tb htb (by simp)
        have hDC := HC.out.ts htr (by simp only [List.mem_singleton]; rintro x rfl; exact HRN.out)
        have hmg := mget_of_mem (by rw [hDC.vals.keys]; exact HNM.out) hmem
        rcases hDC.vals.get k with ⟨e1, -⟩ | ⟨A, ca, x, e1, hcg, hr, hca, -, -⟩
        · rw [hmg] at e1; cases e1
        · obtain rfl : v = .slice A x.length ca := by rw [hmg] at e1; cases e1; rfl
          obtain ⟨i, hi, hix⟩ := cget_some_at hcg
          have hpm := HOK.out.M _ (List.mem_of_getElem? hix)
          simp only at hpm
          obtain ⟨kn, rfl⟩ : ∃ kn : Nat, k = (kn : Int) := ⟨k.toNat, by omega⟩
          have hkn : kn < n := by omega
          have HXL := Lib.hid hpm.2.2
          have HDC := Lib.hid hDC
          have HST := Lib.hid (HFB.out.step hkn HXL.out hcg)
          have HRX := Lib.hid hr
          have HIT2 := Lib.hid hit2
          have HTR := Lib.hid htb
          have HWH := Lib.hid (hDC.whole ⟨HFB.out.1, HOK.out.n1, HOK.out.n2, HOK.out.M, HD1.out.ok.f⟩)
          have HLE := Lib.hid (show w2.rangeLeft gm w1.heap.size < wr.rangeLeft gm w1.heap.size from by rw [hit2.left_eq, HI.out.left_eq]; exact hlt)
          rw [HXL.out] at hen hrun
          have HQ0 := Lib.hid (row4 hDC.row).1
          clear hDC hmg e1 hcg hr hca hi hix hpm hit2 htb htr hmem hlk hlt
          go_wp2_with (at_next; refine wpList_next_run rfl _ rfl _ rfl hrun ?_)
          refine (dsk_sector HWH.out kn hkn).mono ?_
          rintro e w' ⟨gb2, c3, rfl, k1, k2, -, hc0, rfl⟩
          obtain ⟨rfl, hcc⟩ : gb2 = gb ∧ c = c3 + 512 * kn := by
            have := HQ0.out
            rw [this] at hc0
            simp only [Option.some.injEq, Value.slice.injEq, Addr.mk.injEq] at hc0
            exact ⟨hc0.1.1.symm, hc0.2.2⟩
          obtain ⟨w6, hrun6, hown, htb6⟩ := run_copy_sec HDC.out.bytes (512 * kn) 512 c3 A ca x HRX.out (by rw [HXL.out]; exact Nat.le_refl _) (by rw [HXL.out, HFB.out.1]; omega)
          rw [HXL.out] at hrun6
          obtain ⟨hd6, ht6⟩ := HDC.out.copied _ hown htb6
          have HD6 := Lib.hid hd6
          have HT6 := Lib.hid (show TS F w1 w6 from by
            refine (HT.out.trans (TS.tb HTR.out (List.mem_singleton.2 rfl) : TS [w1.heap.size] wr w2) (fun x hx => .inr (by simp only [List.mem_singleton] at hx; omega))).then ht6)
          have hlt2 := HIT2.out.lt
          have hgm : gb2 ≠ gm := fun e => by have := HDC.out.nodup; simp [dctl, e] at this
          have hgr : gb2 ≠ w1.heap.size := fun e => HRN.out (e ▸ HDC.out.mem gb2 (by simp [dctl]))
          have HIT6 := Lib.hid (HIT2.out.move (w' := w6) (htb6.out.block _ hlt2.1 (by simpa using fun e => hgm e.symm)) (htb6.out.block _ hlt2.2.1 (by simpa using fun e => hgr e.symm)))
          have HLE6 := Lib.hid (show w6.rangeLeft gm w1.heap.size < wr.rangeLeft gm w1.heap.size from by rw [HIT6.out.left_eq, ← HIT2.out.left_eq]; exact HLE.out)
          clear hown htb6 hd6 ht6 hc0 hcc hlt2 hgm hgr
          go_wp2_with (refine wpList_copy_by rfl _ _ _ _ rfl _ _ rfl rfl hrun6 ?_)
          go_frame
          go_roundw
          case rel => exact ⟨_, _, _, HIT6.out, HD6.out, HT6.out, HST.out⟩
          case measure => exact HLE6.out
end Go.Proofs.YtihljjfnjclefaaDoor
/- page over no disk; what Load and Save do where no fault is set. -/
set_option linter.unusedVariables false
set_option linter.unusedSimpArgs false
namespace Go.Proofs.YtihljjfnjclefaaDoor
open Go.ChangeShapes Go.WideShapes Go.ChangeAt Go.RowKit Go.MapKept

set_option maxRecDepth 100000 in
theorem pn_made (w : World) : Calls Tryd.prog 53 #[.pointer none] w fun e w' => e = .returned (.bool false) ∧ w = w' := by
  go_enter Tryd.func53, Tryd.ntmps53
  go_wp2
  go_ret
  exact ⟨rfl, rfl⟩
set_option maxRecDepth 100000 in
theorem pn_Sectors (w : World) : Calls Tryd.prog 52 #[.pointer none] w fun e w' => e = .returned (.int .i64 0) ∧ w = w' := by
  go_enter Tryd.func52, Tryd.ntmps52
  go_wp2_with fail
  refine (pn_made _).mono ?_
  rintro e w1 ⟨rfl, rfl⟩
  go_wp2
  go_ret
  exact ⟨rfl, rfl⟩
set_option maxRecDepth 100000 in
theorem pn_Pages (w : World) : Calls Tryd.prog 24 #[.pointer none] w fun e w' => e = .returned (.int .i64 0) ∧ w = w' := by
  go_enter Tryd.func24, Tryd.ntmps24
  go_wp2_with fail
  refine (pn_Sectors _).mono ?_
  rintro e w1 ⟨rfl, rfl⟩
  go_wp2
  go_ret
  exact ⟨rfl, rfl⟩
set_option maxRecDepth 100000 in
theorem pn_right (k : Int) (w : World) : Calls Tryd.prog 47 #[.pointer none, .int .i64 k] w fun e w' => e = .returned (.int .i64 1) ∧ w = w' := by
  go_enter Tryd.func47, Tryd.ntmps47
  go_wp2
  go_ret
  exact ⟨rfl, rfl⟩
set_option maxRecDepth 100000 in
theorem pn_Load (k : Int) (w : World) : Calls Tryd.prog 21 #[.pointer none, .int .i64 k] w fun e w' => e = .returned (.tuple #[.slice none 0 0, .int .i64 1]) ∧ w = w' := by
  go_enter Tryd.func21, Tryd.ntmps21
  go_wp2_with fail
  refine (pn_right k _).mono ?_
  rintro e w1 ⟨rfl, rfl⟩
  go_wp2
  go_ret2
  exact ⟨rfl, rfl⟩
set_option maxRecDepth 100000 in
theorem pn_Save (k : Int) (v : Value) (w : World) : Calls Tryd.prog 23 #[.pointer none, .int .i64 k, v] w fun e w' => e = .returned (.int .i64 1) ∧ FB w w' := by
  go_enter_defers Tryd.func23, Tryd.ntmps23
  go_wp2_with fail
  refine (pn_right k _).mono ?_
  rintro e w1 ⟨rfl, rfl⟩
  go_wp2
  refine ⟨.int .i64 1, ?_, rfl, (FB.refl w).alloc _⟩
  simp [results, Tryd.results23, go_sem]
/-! ### no fault -/
/-- Sector s, as it is read. -/
def secV (D : DiskSt) (s : Nat) : List Byte := (cget D.M (s : Int)).getD (sec D.b s)
def catV (V : Nat → List Byte) : Nat → Nat → List Byte
  | 0, _ => []
  | r + 1, i => V i ++ catV V r (i + 1)
theorem ldF_ok {D : DiskSt} {n k : Nat} (hf : D.fuse = none) : ∀ (r i : Nat) (out : List Byte), k * 8 + i + r ≤ n → ldF n (k : Int) r i out D = (out ++ catV (secV D) r (k * 8 + i), 0, D) := by
  intro r
  induction r with
  | zero => intro i out _; simp [ldF, catV]
  | succ r ih =>
    intro i out h
    have e : (k : Int) * 8 + (i : Int) = ((k * 8 + i : Nat) : Int) := by omega
    rw [ldF, e, sdRead_ok (by omega) (by omega) hf, if_pos rfl]
    show ldF n (k : Int) r (i + 1) _ D = _
    rw [ih (i + 1) _ (by omega), catV, List.append_assoc]
    rfl
theorem sdLoad_ok {D : DiskSt} {n k : Nat} (hf : D.fuse = none) (hk : k < n / 8) : sdLoad D n (k : Int) = (catV (secV D) 8 (k * 8), 0, D) := by
  unfold sdLoad
  rw [if_neg (by unfold pgOut; omega), ldF_ok hf 8 0 [] (by omega)]
  simp
theorem catV_congr {V V' : Nat → List Byte} : ∀ (r i i' : Nat), (∀ j, j < r → V (i + j) = V' (i' + j)) → catV V r i = catV V' r i' := by
  intro r
  induction r with
  | zero => intro i i' _; rfl
  | succ r ih =>
    intro i i' h
    rw [catV, catV, show V i = V' i' from h 0 (by omega), ih (i + 1) (i' + 1) (fun j hj => by have := h (j + 1) (by omega); rw [show i + (j + 1) = i + 1 + j by omega, show i' + (j + 1) = i' + 1 + j by omega] at this; exact this)]
theorem catV_sec (b : List Byte) : ∀ (r i : Nat), catV (sec b) r i = (b.drop (512 * i)).take (512 * r) := by
  intro r
  induction r with
  | zero => intro i; simp [catV]
  | succ r ih =>
    intro i
    rw [catV, ih, sec, show 512 * (i + 1) = 512 * i + 512 by omega, ← List.drop_drop, show 512 * (r + 1) = 512 + 512 * r by omega, List.take_add]
theorem catV_whole {xs : List Byte} (h : xs.length = 4096) : catV (sec xs) 8 0 = xs := by
  rw [catV_sec, Nat.mul_zero, List.drop_zero, List.take_of_length_le (by omega)]
theorem cget_put (M : List (Int × List Byte)) (k k' : Int) (x : List Byte) : cget (cput M k x) k' = if k' = k then some x else cget M k' := by
  induction M with
  | nil =>
    by_cases h : k' = k
    · subst h; simp [cput, cget]
    · rw [if_neg h]; simp [cput, cget]; omega
  | cons p M ih =>
    obtain ⟨a, v⟩ := p
    rw [cput]
    by_cases h : a = k
    · subst h
      rw [if_pos rfl, cget, cget]
      by_cases h2 : k' = a
      · rw [if_pos h2.symm, if_pos h2]
      · rw [if_neg (fun e => h2 e.symm), if_neg h2, if_neg (fun e => h2 e.symm)]
    · rw [if_neg h, cget, cget, ih]
      by_cases h2 : a = k'
      · rw [if_pos h2, if_pos h2, if_neg (by omega)]
      · rw [if_neg h2, if_neg h2]
/-- A page's sectors laid over. -/
def layV (V : Nat → List Byte) (k : Nat) (xs : List Byte) (m : Nat) : Nat → List Byte := fun s => if k * 8 ≤ s ∧ s < k * 8 + m then sec xs (s - k * 8) else V s
theorem svF_ok {n k : Nat} {xs : List Byte} (hl : xs.length = 4096) : ∀ (r i : Nat) (D : DiskSt), D.fuse = none → i + r = 8 → k * 8 + 8 ≤ n → ∃ M, svF n (k : Int) xs r i D = (0, ⟨D.b, M, none⟩) ∧ ∀ s, secV ⟨D.b, M, none⟩ s = if k * 8 + i ≤ s ∧ s < k * 8 + 8 then sec xs (s - k * 8) else secV D s := by
  intro r
  induction r with
  | zero =>
    intro i D hf hi hn
    refine ⟨D.M, ?_, fun s => ?_⟩
    · rw [svF, ← hf]
    · rw [if_neg (by omega)]; rfl
  | succ r ih =>
    intro i D hf hi hn
    have e : (k : Int) * 8 + (i : Int) = ((k * 8 + i : Nat) : Int) := by omega
    have hsl : (sec xs i).length = 512 := sec_len (n := 8) hl (by omega)
    rw [svF, e, sdWrite_ok (by omega) (by omega) hsl hf, if_pos rfl]
    obtain ⟨M, h1, h2⟩ := ih (i + 1) ⟨D.b, cput D.M ((k * 8 + i : Nat) : Int) (sec xs i), none⟩ rfl (by omega) hn
    refine ⟨M, h1, fun s => ?_⟩
    rw [h2 s]
    by_cases hs : k * 8 + (i + 1) ≤ s ∧ s < k * 8 + 8
    · rw [if_pos hs, if_pos (by omega)]
    · rw [if_neg hs]
      unfold secV
      rw [cget_put]
      by_cases hs2 : s = k * 8 + i
      · subst hs2
        rw [if_pos rfl, if_pos (by omega), show k * 8 + i - k * 8 = i by omega]
        rfl
      · rw [if_neg (by omega), if_neg (by omega)]
theorem sdSave_ok {D : DiskSt} {n k : Nat} {xs : List Byte} (hf : D.fuse = none) (hk : k < n / 8) (hl : xs.length = 4096) :
    ∃ M, sdSave D n (k : Int) xs = (0, ⟨D.b, M, none⟩) ∧ ∀ s, secV ⟨D.b, M, none⟩ s = layV (secV D) k xs 8 s := by
  unfold sdSave
  rw [if_neg (by unfold pgOut; rw [hl]; omega)]
  exact svF_ok hl 8 0 D hf rfl (by omega)
theorem sdSave_bad {D : DiskSt} {n : Nat} {k : Int} {xs : List Byte} (hl : xs.length ≠ 4096) : sdSave D n k xs = (2, D) := by
  unfold sdSave; rw [if_pos (.inr hl)]
theorem layV_same (V : Nat → List Byte) {k : Nat} {xs : List Byte} (h : xs.length = 4096) : catV (layV V k xs 8) 8 (k * 8) = xs :=
  (catV_congr (V' := sec xs) 8 (k * 8) 0 (fun j hj => by unfold layV; rw [if_pos (by omega), show k * 8 + j - k * 8 = 0 + j by omega])).trans (catV_whole h)
theorem layV_other (V : Nat → List Byte) {k k' : Nat} (xs : List Byte) (h : k' ≠ k) : catV (layV V k xs 8) 8 (k' * 8) = catV V 8 (k' * 8) :=
  catV_congr 8 _ _ (fun j hj => by unfold layV; rw [if_neg (by omega)])
theorem sdFlush_ok {D : DiskSt} (hf : D.fuse = none) : sdFlush D = (0, ⟨flushB D.M D.b, [], none⟩) := by
  unfold sdFlush; rw [hf]; rfl
theorem secV_clean (b : List Byte) (f : Option Int) (s : Nat) : secV ⟨b, [], f⟩ s = sec b s := rfl
theorem secV_flush {D : DiskSt} {n : Nat} (h : D.ok n) (hn : (D.M.map (·.1)).Nodup) (f : Option Int) {s : Nat} (hs : s < n) : secV ⟨flushB D.M D.b, [], f⟩ s = secV D s := by
  rw [secV_clean, sec_flushB h.len hs h.M hn]; rfl
/-- A page's bytes in the image. -/
theorem catV_image (b : List Byte) (f : Option Int) (k : Nat) : catV (secV ⟨b, [], f⟩) 8 (k * 8) = (b.drop (4096 * k)).take 4096 := by
  refine (catV_congr (V' := sec b) 8 (k * 8) (k * 8) (fun j _ => rfl)).trans ?_
  rw [catV_sec, show 512 * (k * 8) = 4096 * k by omega]
end Go.Proofs.YtihljjfnjclefaaDoor
/- the reference of layer 1: a reader of four bytes, and the word that it reads. -/
set_option linter.unusedVariables false
set_option linter.unusedSimpArgs false
namespace Go.Proofs.YtihljjfnjclefaaDoor
open Go.ChangeShapes Go.WideShapes Go.ChangeAt Go.RowKit
attribute [local go_sem] nb_nonneg nb_lt8 nb_lt64
set_option maxRecDepth 100000

set_option maxHeartbeats 1000000 in
theorem rr_New (xs : List Byte) (A : Option Addr) (c : Nat) (w : World) (hx : xs.length = 4) (hr : Rd w A xs) :
    Calls Tryd.prog 42 #[.slice A 4 c] w fun e w' => ∃ g b c', e = .returned (.pointer (some ⟨g, 0, none⟩)) ∧ w'.heap[g]? = some (.cells #[.slice (some ⟨b, 0, none⟩) 4 c', .int .i64 0] 89 (0, 0)) ∧ Rd w' (some ⟨b, 0, none⟩) xs ∧ 4 ≤ c' ∧ c' ≤ maxLen ∧ b < g ∧ w.heap.size ≤ g ∧ FB w w' := by
  have HR := Lib.hid hr
  have HX := Lib.hid hx
  clear hr hx
  go_enter Tryd.func42, Tryd.ntmps42
  go_wp2_with (at_builtin; (refine wpList_append_bytes rfl _ _ rfl w.heap.size _ [] (OwnV.lit _ w [] (by simp)) rfl A c xs (by rw [HX.out]; rfl) (HR.out.alloc _) (by simp [HX.out]) (by simp) ?_; intro v' w1 ho hg _; obtain ⟨A', c', e', h1, h2, -, -⟩ := Own.form ho; rw [List.nil_append, HX.out] at e' h1; subst e'; have HO := Lib.hid ho; have HG := Lib.hid hg; have H1 := Lib.hid h1; have H2 := Lib.hid h2; clear ho hg h1 h2))
  go_ret
  obtain ⟨b, rfl, hb1, hb2⟩ := OwnV.head0 HO.out (by rw [vbs_length, List.nil_append, HX.out]; omega)
  refine ⟨w1.heap.size, b, c', rfl, heap_alloc_new _ _, (Own.info HO.out).2.2.1.alloc _, H1.out, H2.out, hb2, ?_, (((FB.refl w).alloc _).grown HG.out (by simp [Value.ownBlock])).alloc _⟩
  have := HG.out.size
  simp at this; omega
set_option maxHeartbeats 1000000 in
theorem rr_take (xs : List Byte) (g b c : Nat) (w : World) (hx : xs.length = 4) (hrow : w.heap[g]? = some (.cells #[.slice (some ⟨b, 0, none⟩) 4 c, .int .i64 0] 89 (0, 0))) (hr : Rd w (some ⟨b, 0, none⟩) xs) (h4 : 4 ≤ c) (hm : c ≤ maxLen) :
    Calls Tryd.prog 66 #[.pointer (some ⟨g, 0, none⟩), .int .i64 4] w fun e w' => ∃ A' c', e = .returned (.tuple #[.slice A' 4 c', .bool true]) ∧ Rd w' A' xs ∧ TS [g] w w' := by
  have HR := Lib.hid hr
  have HX := Lib.hid hx
  have HROW := Lib.hid hrow
  have HM := Lib.hid hm
  have hm2 : (c : Int) ≤ 9223372036854775807 := by unfold maxLen at hm; omega
  have h4z : (4 : Int) ≤ (c : Int) := by omega
  obtain ⟨q0, q1⟩ := row2 hrow
  obtain ⟨r0, r1⟩ := row2 ((((FB.refl w).alloc (.cells #[] 5)).block _ (Array.getElem?_eq_some_iff.1 hrow).1).trans hrow)
  clear hr hx hrow hm
  go_enter Tryd.func66, Tryd.ntmps66
  go_upto_region 6 with (at_builtin; refine wpList_append_bytes rfl _ _ rfl w.heap.size _ [] (OwnV.lit _ w [] (by simp)) rfl (some ⟨b, 0, none⟩) c xs (by rw [HX.out]; rfl) (HR.out.alloc _) (by simp [HX.out]) (by simp) ?_; intro v' w1 ho hg _; have HO := Lib.hid ho; have HG := Lib.hid hg; clear ho hg)
  have HO1 := Lib.hid (show Own w1 w.heap.size v' xs from by have := HO.out; rwa [List.nil_append] at this)
  have hfb := ((FB.refl w).alloc (.cells #[] 5)).grown HG.out (by simp [Value.ownBlock])
  have hrow1 := (hfb.block _ (Array.getElem?_eq_some_iff.1 HROW.out).1).trans HROW.out
  obtain ⟨s0, s1⟩ := row2 hrow1
  have sf := frozen_row _ hrow1 0
  have HTS := Lib.hid (fun v0 => show TS [g] w (w1.setCell ⟨g, 0, none⟩ v0) from (TS.of hfb).then (TS.tb (TB.set w1 0 _) (by simp)))
  obtain ⟨A', c', rfl, -, -, h3, -⟩ := Own.form HO1.out
  have HRD := Lib.hid (fun v0 => (show TS [g] w1 (w1.setCell ⟨g, 0, none⟩ v0) from TS.tb (TB.set w1 0 _) (by simp)).rd h3 (fun ad ha hm => by
    have h1 := ((Own.info HO1.out).2.2.2.2 ad ha).1
    have h2 := (Array.getElem?_eq_some_iff.1 HROW.out).1
    simp at hm; omega))
  rw [HX.out]
  clear q0 q1 r0 r1 HO HG HO1 hfb hrow1 HR HROW h3
  by_cases h5 : c = 4
  · subst h5
    go_wp2_with fail
    go_ret2
    exact ⟨A', c', rfl, HRD.out _, HTS.out _⟩
  · have h6 : 4 < c := by omega
    have h7 : (4 : Int) < (c : Int) := by omega
    go_wp2_with fail
    go_ret2
    exact ⟨A', c', rfl, HRD.out _, HTS.out _⟩
set_option maxHeartbeats 1000000 in
theorem rr_Word (xs : List Byte) (g b c : Nat) (w : World) (hx : xs.length = 4) (hrow : w.heap[g]? = some (.cells #[.slice (some ⟨b, 0, none⟩) 4 c, .int .i64 0] 89 (0, 0))) (hr : Rd w (some ⟨b, 0, none⟩) xs) (h4 : 4 ≤ c) (hm : c ≤ maxLen) :
    Calls Tryd.prog 43 #[.pointer (some ⟨g, 0, none⟩), .int .i64 4] w fun e w' => e = .returned (.int .u64 (nb (xword xs))) ∧ TS [g] w w' := by
  have HC := Lib.hid (rr_take xs g b c w hx hrow hr h4 hm)
  have HX := Lib.hid hx
  obtain ⟨q0, q1⟩ := row2 hrow
  clear hx hrow hr h4 hm
  go_enter Tryd.func43, Tryd.ntmps43
  go_wp2_with fail
  refine HC.out.mono ?_
  rintro e w1 ⟨A', c', rfl, hr, hts⟩
  have HR := Lib.hid hr
  have HTS := Lib.hid hts
  clear hr hts q0 q1 HC
  go_wp2_with fail
  go_loop [7, 8] (fun s i => ∃ j : Nat, j ≤ 4 ∧ i = .int .i64 j ∧ s = .int .u64 (nb (xword (xs.take j)))) (fun _ i => 4 - (intOf i).toNat)
  case atStart => exact ⟨0, by omega, rfl, by simp [xword, nb_zero]⟩
  case round =>
    obtain ⟨j, hj, rfl, rfl⟩ := hrel
    by_cases hlt : j < 4
    · obtain ⟨b0, o0, rfl, hb0, hcell⟩ := HR.out.form (by rw [HX.out]; omega)
      have hc := hcell j (by rw [HX.out]; omega)
      have HS := Lib.hid (show xword (xs.take (j + 1)) = xword (xs.take j) + ((xs[j]'(by rw [HX.out]; omega)).setWidth 64) <<< (8 * j) by
        rw [List.take_succ_eq_append_getElem (by rw [HX.out]; omega), xword_add, show (xs.take j).length = j by rw [List.length_take, HX.out]; omega])
      clear hcell
      have hjx : (j : Int) < 4 := by omega
      generalize xs[j]'(by rw [HX.out]; omega) = y at *
      generalize xword (xs.take j) = s at *
      have hsh : IntKind.u64.wrap (nb y * 2 ^ (8 * j)) = nb (y.setWidth 64 <<< (8 * j)) := by rw [← wrap_shl, nb_setWidth y (by omega)]
      have hor := wrap_add64 s (y.setWidth 64 <<< (8 * j))
      unfold vb at hc
      have hwy : IntKind.u64.wrap (nb y) = nb y := by rw [wrap_u64]; exact Int.emod_eq_of_lt (nb_nonneg _) (by have := nb_lt8 y; omega)
      go_wp2
      go_round
      case rel => exact ⟨j + 1, by omega, by go_num, by rw [HS.out, ← hor, ← hsh]⟩
      case measure => simp [intOf]; omega
    · obtain rfl : j = 4 := by omega
      go_wp2
      go_ret
      exact ⟨by rw [List.take_of_length_le (by rw [HX.out]; omega)]; rfl, HTS.out⟩
end Go.Proofs.YtihljjfnjclefaaDoor
/- The walks through the reference of chapter 3, and the chapter's examples. -/
set_option linter.unusedVariables false
set_option linter.unusedSimpArgs false
namespace Go.Proofs.YtihljjfnjclefaaDoor
open Go.ChangeShapes Go.WideShapes Go.ChangeAt Go.RowKit
attribute [local go_sem] nb_beq nb_bne nb_beq1 nb_mod8 nb_mod2 nb_tmod2 nb_shr_8 nb_shr_1 bits_xor32 bits_and32 bits_xor8 bits_xor32l bits_and32l bits_not32 BitVec.setWidth_eq nb_nonneg nb_lt8

theorem info_tab : (Tryd.prog.info? 102).map (·.size) = some 256 := (zero_of_info zero_tab).2

theorem size_tab' {T : Array Value} (h : TabTo T 256) : (Tryd.prog.info? 102).map (·.size) = some T.toList.length := by rw [Array.length_toList, h.1]; exact info_tab
set_option maxRecDepth 100000 in
set_option maxHeartbeats 400000 in
theorem ref_On (T : Array Value) (t : Byte → BitVec 32) (s : BitVec 32) (xs : List Byte) (A : Option Addr) (c : Nat) (w : World) (hc : xs.length ≤ c) (hm : c ≤ maxLen) (hr : Rd w A xs) (hT : IsTab T t) :
    Calls Tryd.prog 81 #[.agg T, .int .u32 (nb s), .slice A xs.length c] w fun e w' => e = .returned (.int .u32 (nb (crcOn t s xs))) ∧ w.alloc (.cells T 102) = w' := by
  have HT := Lib.hid hT
  have HR := Lib.hid hr
  clear hT hr
  unfold maxLen at hm
  go_enter Tryd.func81, Tryd.ntmps81
  go_wp2
  go_loop [7, 8] (fun st i => ∃ k : Nat, k ≤ xs.length ∧ i = .int .i64 k ∧ st = .int .u32 (nb ((xs.take k).foldl (crcStep t) (~~~ s)))) (fun _ i => xs.length - (intOf i).toNat)
  case atStart => exact ⟨0, by omega, rfl, by simp⟩
  case round =>
    obtain ⟨k, hk, rfl, rfl⟩ := hrel
    by_cases hlt : k < xs.length
    · obtain ⟨b, o, rfl, hb, hcell⟩ := HR.out.form (by omega)
      have hck := hcell k hlt
      unfold vb at hck
      clear hcell
      have hsn : List.foldl (crcStep t) (~~~s) (List.take (k + 1) xs) = crcStep t (List.foldl (crcStep t) (~~~s) (List.take k xs)) xs[k] := by
        rw [List.take_succ_eq_append_getElem hlt, List.foldl_append]; rfl
      have HS := Lib.hid hsn
      clear hsn
      generalize hst : List.foldl (crcStep t) (~~~s) (List.take k xs) = st at *
      have HST := Lib.hid hst
      clear hst
      generalize hx : xs[k] = x at *
      have HX := Lib.hid hx
      clear hx
      have ht := HT.out.2 (st.setWidth 8 ^^^ x)
      go_wp2
      go_round
      case rel => exact ⟨k + 1, by omega, by go_num, by rw [HS.out]; rfl⟩
      case measure => simp [intOf]; omega
    · go_wp2
      go_ret
      have : k = xs.length := by omega
      subst this
      exact ⟨by simp [crcOn], rfl⟩

set_option maxRecDepth 100000 in
set_option maxHeartbeats 400000 in
theorem ref_Table (w : World) :
    Calls Tryd.prog 82 #[] w fun e w' => ∃ T, e = .returned (.agg T) ∧ TabTo T 256 ∧ Below w.heap.size w w' := by
  have hz := (zero_of_info zero_tab).1
  go_enter Tryd.func82, Tryd.ntmps82
  go_wp2
  clear hz
  go_loopw [2, 3, 4] (fun i _ _ wr => ∃ k C, k ≤ 256 ∧ i = .int .i64 (k : Nat) ∧ wr = (w.alloc (.cells zeroTab 102)).alloc (.cells C 102) ∧ TabTo C k) (fun i _ _ _ => 256 - (intOf i).toNat)
  case atStart => exact ⟨0, zeroTab, by omega, rfl, rfl, TabTo.zero⟩
  case round =>
    obtain ⟨k, C, hk, rfl, rfl, hC⟩ := hrel
    by_cases hlt : k < 256
    · obtain ⟨v, hv⟩ := hC.at k hlt
      have hset := hC.set hlt
      have HC := Lib.hid hset
      clear hC hset
      go_wp2
      go_loop [3, 4] (fun x j => ∃ n : Nat, n ≤ 8 ∧ j = .int .i64 n ∧ x = .int .u32 (nb (crcBits n (BitVec.ofNat 32 k)))) (fun _ j => 8 - (intOf j).toNat)
      case atStart => exact ⟨0, by omega, rfl, by rw [show crcBits 0 (BitVec.ofNat 32 k) = BitVec.ofNat 32 k from rfl, ofNat32_nb k hlt]⟩
      case round =>
        obtain ⟨n, hn, rfl, rfl⟩ := hrel
        by_cases hln : n < 8
        · have hsucc := crcBits_succ n (BitVec.ofNat 32 k)
          have HS := Lib.hid hsucc
          clear hsucc
          generalize crcBits n (BitVec.ofNat 32 k) = x at *
          by_cases hb : x &&& 1#32 = 1#32
          · have hb1 : (x &&& 1#32 == 1#32) = true := by rw [hb]; rfl
            have HE : crcBit x = (x >>> 1) ^^^ 0x82f63b78#32 := by unfold crcBit; rw [if_pos hb]
            have HE := Lib.hid HE
            clear hb
            go_wp2
            go_round
            case rel => exact ⟨n + 1, by omega, by go_num, by rw [HS.out, HE.out]⟩
            case measure => simp [intOf]; omega
          · have hb1 : (x &&& 1#32 == 1#32) = false := beq_eq_false_iff_ne.2 hb
            have HE : crcBit x = x >>> 1 := by unfold crcBit; rw [if_neg hb]
            have HE := Lib.hid HE
            clear hb
            go_wp2
            go_round
            case rel => exact ⟨n + 1, by omega, by go_num, by rw [HS.out, HE.out]⟩
            case measure => simp [intOf]; omega
        · obtain rfl : n = 8 := by omega
          go_wp2
          go_roundw
          case rel => exact ⟨k + 1, _, by omega, by go_num, rfl, HC.out⟩
          case measure => simp [intOf]; omega
    · obtain rfl : k = 256 := by omega
      have hsz : (Tryd.prog.info? 102).map (·.size) = some C.size := by rw [hC.1]; exact info_tab
      have hall : C.all (·.oneCell') = true := by rw [← Array.all_toList]; exact List.all_eq_true.2 hC.2.1
      have hl := run_loadAt_new (P := Tryd.prog) (w.alloc (.cells zeroTab 102)) 102 C 256 22 Tryd.underlying102 hsz
      rw [show (w.alloc (.cells zeroTab 102)).heap.size = w.heap.size + 1 from by simp] at hl
      have hs : (Instr.storeAt 102 (.pointer (some ⟨w.heap.size, 0, none⟩)) (.agg C)).run Tryd.prog ((w.alloc (.cells zeroTab 102)).alloc (.cells C 102)) = .ok () (((w.alloc (.cells zeroTab 102)).alloc (.cells C 102)).setRow w.heap.size C) := by
        simp only [Instr.storeAt, Instr.sureAddr, Sem.run_bind, Sem.run_pure, Result.andThen]
        exact run_storeVar_row _ _ _ _ zeroTab C (heap_alloc2_old _ _ _) hsz (by rw [zeroTab_size, hC.1]) hall
      have hg : (((w.alloc (.cells zeroTab 102)).alloc (.cells C 102)).setRow w.heap.size C).heap[w.heap.size]? = some (.cells C 102 (0, 0)) := setRow_heap _ _ zeroTab C _ _ (heap_alloc2_old _ _ _)
      have hbl : Below w.heap.size w (((w.alloc (.cells zeroTab 102)).alloc (.cells C 102)).setRow w.heap.size C) :=
        ⟨rfl, rfl, rfl, by simp [World.setRow]; omega, fun k hk => (setRow_other _ w.heap.size k C (by omega)).trans ((Below.heap_alloc _ _ k (by simp; omega)).trans (Below.heap_alloc _ _ k hk))⟩
      have HC := Lib.hid hC
      have HZ := Lib.hid hsz
      have HG := Lib.hid hg
      have HB := Lib.hid hbl
      clear hC hsz hall hg hbl
      generalize hW : ((w.alloc (.cells zeroTab 102)).alloc (.cells C 102)).setRow w.heap.size C = W at *
      clear hW
      go_wp2_with (first | (refine wpList_load_by rfl _ _ rfl _ hl ?_) | (refine wpList_store_by rfl _ _ _ rfl _ hs ?_))
      exact bodyPost_ret (v := .agg C) (results_cell_row Tryd.results82 _ _ w.heap.size 102 C (0, 0) _ rfl HG.out Tryd.underlying102 rfl HZ.out) rfl ⟨C, rfl, HC.out, HB.out⟩

set_option maxRecDepth 100000 in
set_option maxHeartbeats 400000 in
theorem ref_Sum (xs : List Byte) (A : Option Addr) (c : Nat) (w : World) (hc : xs.length ≤ c) (hm : c ≤ maxLen) (hr : Rd w A xs) :
    Calls Tryd.prog 71 #[.slice A xs.length c] w fun e w' => e = .returned (.int .u32 (nb (crcSum xs))) ∧ Below w.heap.size w w' := by
  have HR := Lib.hid hr
  clear hr
  go_enter Tryd.func71, Tryd.ntmps71
  go_wp2_with fail
  refine (ref_Table _).mono ?_
  rintro e w1 ⟨T, rfl, hT, hb⟩
  have HT := Lib.hid hT
  have HB := Lib.hid hb
  clear hT hb
  go_wp2_with fail
  rw [show (0 : Int) = nb 0#32 from nb_zero.symm]
  refine (ref_On T crcT _ xs A c _ hc hm (HR.out.below HB.out) HT.out.tab).mono ?_
  rintro e w2 ⟨rfl, rfl⟩
  go_wp2
  go_ret
  exact ⟨rfl, HB.out.alloc HB.out.size _⟩

end Go.Proofs.YtihljjfnjclefaaDoor
/- the reference of layer 5: sum. -/
set_option linter.unusedVariables false
set_option linter.unusedSimpArgs false
namespace Go.Proofs.YtihljjfnjclefaaDoor
open Go.ChangeShapes Go.WideShapes Go.ChangeAt Go.RowKit
attribute [local go_sem] nb_nonneg nb_lt8 nb_lt64
set_option maxRecDepth 100000

theorem OwnV.cellset {e : TypeId} {w : World} {base n g c : Nat} {vs : List Value} (h : OwnV e w base (.slice (some ⟨g, 0, none⟩) n c) vs) {j : Nat} (hj : j < vs.length) :
    w.cell? ⟨g, j, none⟩ = some vs[j] ∧ w.frozen? ⟨g, j, none⟩ = false ∧ ∀ u, OwnV e (w.setCell ⟨g, j, none⟩ u) base (.slice (some ⟨g, 0, none⟩) n c) (vs.set j u) := by
  obtain ⟨_, _, _, hn, _⟩ := OwnV.info h
  subst hn
  have hr := h
  unfold OwnV at hr
  refine ⟨?_, World.ownsRow.frozenAt hr j, fun u => ?_⟩
  · rw [World.ownsRow.cellAt hr j (by omega), List.getElem?_eq_getElem hj]
  · have := (World.ownsRow.stored hr j u).1
    unfold OwnV
    rw [List.length_set]
    exact this
def zro (b : List Byte) (k : Nat) : List Byte := b.take 12 ++ (List.replicate k 0#8 ++ b.drop (12 + k))
theorem zro_zero (b : List Byte) : zro b 0 = b := by simp [zro]
theorem zro_four (b : List Byte) : zro b 4 = b.take 12 ++ (z4 ++ b.drop 16) := rfl
theorem zro_len {b : List Byte} {k : Nat} (h : 12 + k ≤ b.length) : (zro b k).length = b.length := by simp [zro]; omega
theorem zro_succ {b : List Byte} {k : Nat} (h : 12 + k < b.length) : (zro b k).set (12 + k) 0#8 = zro b (k + 1) := by
  have l12 : (b.take 12).length = 12 := by simp; omega
  unfold zro
  rw [List.set_append, if_neg (by omega), l12, List.set_append, if_neg (by simp), List.length_replicate, show 12 + k - 12 - k = 0 from by omega, List.drop_eq_getElem_cons h, List.set_cons_zero, List.replicate_succ', List.append_assoc, show 12 + (k + 1) = 12 + k + 1 from rfl]
  rfl
set_option maxHeartbeats 2000000 in
theorem r5_sum (b : List Byte) (A : Option Addr) (c : Nat) (w : World) (hl : b.length = 4096) (hr : Rd w A b) :
    Calls Tryd.prog 46 #[.slice A 4096 c] w fun e w' => e = .returned (.int .u32 (nb (crcSum (b.take 12 ++ (z4 ++ b.drop 16))))) ∧ FB w w' := by
  have HR := Lib.hid hr
  have HL := Lib.hid hl
  clear hr hl
  go_enter Tryd.func46, Tryd.ntmps46
  go_upto_region 2 with (at_builtin; refine wpList_append_bytes rfl _ _ rfl w.heap.size _ [] (OwnV.lit _ w [] (by simp)) rfl A c b (by rw [HL.out]; rfl) (HR.out.alloc _) (by simp [HL.out]) (by simp) ?_; intro v' w1 ho hg _; obtain ⟨A', c', e', -, -, -, -⟩ := Own.form ho; rw [List.nil_append, HL.out] at e'; subst e'; rw [List.nil_append] at ho; have HO := Lib.hid ho; have HG := Lib.hid hg; clear ho hg)
  obtain ⟨g, rfl, hg1, -⟩ := OwnV.head0 HO.out (by rw [vbs_length, HL.out]; omega)
  have HFB := Lib.hid (((FB.refl w).alloc (.cells #[] 5)).grown HG.out (by simp [Value.ownBlock]))
  have HGB := Lib.hid hg1
  clear hg1 HG
  go_wp2_with fail
  go_loopw [4] (fun c4 wl => ∃ k : Nat, k ≤ 4 ∧ c4 = .int .i64 (12 + (k : Int)) ∧ Hid (Own wl w.heap.size (.slice (some ⟨g, 0, none⟩) 4096 c') (zro b k)) ∧ Hid (FB w wl)) (fun c4 wl => 16 - (intOf c4).toNat)
  case atStart => exact ⟨0, by omega, rfl, Lib.hid (by rw [zro_zero]; exact HO.out), HFB.out⟩
  case round =>
    obtain ⟨k, hk, rfl, HOK, HW⟩ := hrel
    by_cases hlt : k < 4
    · obtain ⟨q, hq⟩ : ∃ q, q = 12 + k := ⟨_, rfl⟩
      rw [show (12 : Int) + (k : Int) = (q : Int) from by omega]
      have hq16 : (q : Int) < 16 := by omega
      have hq4 : (q : Int) < 4096 := by omega
      have hwq : IntKind.i64.wrap ((q : Int) + 1) = (q : Int) + 1 := by rw [IntKind.wrap_i64]; omega
      have HLZ := Lib.hid (show (zro b k).length = 4096 from by rw [zro_len (by rw [HL.out]; omega), HL.out])
      obtain ⟨s0, sf, sset⟩ := OwnV.cellset HOK.out (j := q) (by rw [vbs_length, HLZ.out]; omega)
      rw [vbs_get _ _ (by rw [HLZ.out]; omega)] at s0
      unfold vb at s0
      have HO2 := Lib.hid (show Own (wr.setCell ⟨g, q, none⟩ (.int .u8 0)) w.heap.size (.slice (some ⟨g, 0, none⟩) 4096 c') (zro b (k + 1)) from by
        have h1 := sset (vb 0#8)
        unfold Own
        rw [← zro_succ (by rw [HL.out]; omega), ← hq, show vbs ((zro b k).set q 0#8) = (vbs (zro b k)).set q (vb 0#8) from by unfold vbs; rw [List.map_set]]
        exact h1)
      have HW2 := Lib.hid (HW.out.set (p := ⟨g, q, none⟩) HGB.out (.int .u8 0))
      have HQ := Lib.hid hq
      have HLT := Lib.hid hlt
      generalize (zro b k)[q]'(by rw [HLZ.out]; omega) = zq at *
      clear sset hq hlt hk
      go_wp2_with fail
      go_roundw
      case rel => exact ⟨k + 1, by have := HLT.out; omega, by have := HQ.out; go_num, HO2.out, HW2.out⟩
      case measure => have := HQ.out; have := HLT.out; simp [intOf]; omega
    · obtain rfl : k = 4 := by omega
      have hcw := ref_Sum (zro b 4) (some ⟨g, 0, none⟩) c' wr (Own.info HOK.out).1 (Own.info HOK.out).2.1 (Own.info HOK.out).2.2.1
      rw [zro_len (by rw [HL.out]; omega), HL.out, zro_four] at hcw
      have HC := Lib.hid hcw
      rw [show (12 : Int) + ((4 : Nat) : Int) = 16 from rfl]
      clear hcw hk hlt
      go_wp2_with fail
      refine HC.out.mono ?_
      rintro e w5 ⟨rfl, hb⟩
      have HE := Lib.hid (HW.out.call hb)
      clear hb
      go_wp2
      go_ret
      exact ⟨rfl, HE.out⟩
end Go.Proofs.YtihljjfnjclefaaDoor
