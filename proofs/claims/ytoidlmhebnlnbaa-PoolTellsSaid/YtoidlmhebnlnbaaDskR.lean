/- A disk: the walk through Flush. -/
import Derived.Test.YtoidlmhebnlnbaaDskQ
import Derived.Test.YtoidlmhebnlnbaaMpr
set_option linter.unusedVariables false
set_option linter.unusedSimpArgs false
namespace Go.Proofs.Ytoidlmhebnlnbaa
open Go.ChangeShapes Go.WideShapes Go.ChangeAt Go.RowKit Go.MapKept

theorem mget_of_mem : ∀ {V : List (Int × Value)}, (V.map (·.1)).Nodup → ∀ {k : Int} {v : Value}, (k, v) ∈ V → mget V k = some v
  | [], _, _, _, h => by cases h
  | (k', v') :: V, hn, k, v, h => by
    rw [List.map_cons, List.nodup_cons] at hn
    rw [mget]
    rcases List.mem_cons.1 h with e | h'
    · cases e; rw [if_pos rfl]
    · rw [if_neg (fun e => hn.1 (List.mem_map.2 ⟨(k, v), h', e.symm⟩))]
      exact mget_of_mem hn.2 h'
/-- What the bytes are when some are still to come. -/
def FlushAt (M : List (Int × List Byte)) (b b' : List Byte) (n : Nat) (left : Int → Prop) : Prop :=
  b'.length = 512 * n ∧ ∀ k, k < n → (left (k : Int) → sec b' k = sec b k) ∧ (¬ left (k : Int) → sec b' k = (cget M k).getD (sec b k))
theorem FlushAt.step {M : List (Int × List Byte)} {b b' : List Byte} {n : Nat} {left : Int → Prop} (h : FlushAt M b b' n left) {k : Nat} (hk : k < n) {x : List Byte} (hx : x.length = 512) (hc : cget M (k : Int) = some x) :
    FlushAt M b (splice b' (512 * k) x) n (fun y => left y ∧ y ≠ (k : Int)) := by
  refine ⟨by rw [length_splice _ _ _ (by rw [h.1]; omega)]; exact h.1, fun k' hk' => ?_⟩
  by_cases e : k' = k
  · subst e
    refine ⟨fun h' => absurd rfl h'.2, fun _ => ?_⟩
    rw [sec_splice_same h.1 hk (by omega), List.drop_of_length_le (by rw [sec_len h.1 hk]; omega), List.append_nil, hc]; rfl
  · rw [sec_splice_other h.1 hk (by omega) e]
    have := h.2 k' hk'
    exact ⟨fun h' => this.1 h'.1, fun h' => this.2 (fun hl => h' ⟨hl, by omega⟩)⟩
theorem FlushAt.done {M : List (Int × List Byte)} {b b' : List Byte} {n : Nat} {left : Int → Prop} (h : FlushAt M b b' n left) (hb : b.length = 512 * n) (hM : ∀ p ∈ M, 0 ≤ p.1 ∧ p.1 < n ∧ p.2.length = 512) (hn : (M.map (·.1)).Nodup) (hl : ∀ p ∈ M, ¬ left p.1) : b' = flushB M b :=
  flushB_of hb h.1 hM hn (fun k hk => by
    have := h.2 k hk
    by_cases e : left (k : Int)
    · rw [this.1 e]
      cases hc : cget M (k : Int) with
      | none => rfl
      | some x =>
        obtain ⟨i, hi, hx⟩ := cget_some_at hc
        exact absurd e (hl _ (List.mem_of_getElem? hx))
    · exact this.2 e)
/-- What Flush returns, and leaves. -/
def sdFlush (D : DiskSt) : Int × DiskSt := if (ffail D.fuse).1 then (8, { D with fuse := (ffail D.fuse).2 }) else (0, ⟨flushB D.M D.b, [], (ffail D.fuse).2⟩)
set_option maxRecDepth 100000 in
set_option maxHeartbeats 2000000 in
theorem dsk_Flush {w : World} {F : List Nat} {g n : Nat} {D : DiskSt} (h : Dsk w F g n D) :
    Calls Try.prog 35 #[.pointer (some ⟨g, 0, none⟩)] w fun e w' => e = .returned (.int .i64 (sdFlush D).1) ∧ Dsk w' F g n (sdFlush D).2 ∧ TS F w w' := by
  have H := Lib.hid h
  have HFA := Lib.hid (dsk_fails h)
  have HOK := Lib.hid h.ok
  unfold sdFlush
  cases hff : (ffail D.fuse).1 with
  | true =>
    rw [if_pos rfl]
    rw [hff] at HFA
    clear h hff
    go_enter Try.func35, Try.ntmps35
    go_wp2_with fail
    refine (dsk_made H.out).mono ?_
    rintro e w1 ⟨rfl, rfl⟩
    go_wp2_with fail
    refine HFA.out.mono ?_
    rintro e w1 ⟨rfl, hd, ht⟩
    have HD1 := Lib.hid hd
    have HT1 := Lib.hid ht
    clear hd ht
    go_wp2
    go_ret
    exact ⟨rfl, HD1.out, HT1.out⟩
  | false =>
    rw [if_neg (by simp)]
    rw [hff] at HFA
    generalize (ffail D.fuse).2 = fz at *
    clear h hff
    go_enter Try.func35, Try.ntmps35
    go_wp2_with fail
    refine (dsk_made H.out).mono ?_
    rintro e w1 ⟨rfl, rfl⟩
    go_wp2_with fail
    refine HFA.out.mono ?_
    rintro e w1 ⟨rfl, hd, ht⟩
    have HD1 := Lib.hid hd
    have HT1 := Lib.hid ht
    clear ht
    obtain ⟨gb, c, gm, O, oc, L, V, hp⟩ := hd.parts
    obtain ⟨p0, p1, p2, p3⟩ := row4 hp.row
    rw [List.length_map] at p2
    obtain ⟨wi, hrange, ⟨cnt0, hit⟩, hfi⟩ := map_range Try.underlying68 hp.map
    have HIT := Lib.hid hit
    have HP1 := Lib.hid (hp.ts (TS.of (F := []) hfi) (by simp))
    have HRN := Lib.hid (show w1.heap.size ∉ F from fun hm => by have := hp.lt _ hm; omega)
    have HTI := Lib.hid (TS.of (F := F) hfi)
    have HNM := Lib.hid hp.nodupM
    have HFL := Lib.hid (show FlushAt D.M D.b D.b n (fun _ => True) from ⟨HOK.out.len, fun k hk => ⟨fun _ => rfl, fun h => absurd trivial h⟩⟩)
    clear hd hp hit hfi
    go_wp2_with (at_range; refine wpList_range_run rfl _ _ rfl _ rfl hrange ?_)
    go_frame
    clear hrange p0 p1 p2 p3
    go_loopw [] (fun wr => ∃ left cnt b', Hid (MapIt wr gm w1.heap.size V left cnt) ∧ Hid (DskC wr F g n gb c gm O oc L V { D with b := b', fuse := fz } (D.M.map (·.1))) ∧ Hid (TS F w1 wr) ∧ Hid (FlushAt D.M D.b b' n left)) (fun wr => wr.rangeLeft gm w1.heap.size)
    case atStart => exact ⟨_, _, _, HIT.out, HP1.out, HTI.out, HFL.out⟩
    case round =>
      obtain ⟨left, cnt, b', HI, HC, HT, HFB⟩ := hrel
      rcases map_next (P := Try.prog) HI.out with ⟨hc0, hno, hrun⟩ | ⟨k, v, w2, cnt2, hmem, hlk, hrun, hit2, hlt, htb, hen⟩
      · have hkeys := HC.out.vals.keys
        have hb' : b' = flushB D.M D.b := HFB.out.done HOK.out.len HOK.out.M HNM.out (fun p hp hl => by
          have : p.1 ∈ V.map (·.1) := by rw [hkeys]; exact List.mem_map.2 ⟨p, hp, rfl⟩
          obtain ⟨q, hq, e⟩ := List.mem_map.1 this
          exact hno q hq (by rw [e]; exact hl))
        have HB' := Lib.hid hb'
        have hDC := HC.out
        obtain ⟨q0, q1, q2, q3⟩ := row4 hDC.row
        obtain ⟨w2, hcl, hm2, htb2⟩ := map_clear Try.underlying68 hDC.map 0
        obtain ⟨hrow2, hD2, hT2⟩ := hDC.cleared ⟨HFB.out.1, HOK.out.n1, HOK.out.n2, HOK.out.M, HD1.out.ok.f⟩ hm2 htb2
        obtain ⟨s0, s1, s2, s3⟩ := row4 hrow2
        have sf2 := frozen_row _ hrow2 2
        have HD2 := Lib.hid hD2
        have HT2 := Lib.hid (HT1.out.then (HT.out.then hT2))
        clear hDC hrow2 hD2 hT2 hm2 htb2 hb' hno hkeys
        go_wp2_with (at_next; refine wpList_next_run rfl _ rfl _ rfl hrun ?_)
        go_wp2_with (refine wpList_clear_run rfl _ _ rfl _ rfl hcl ?_)
        go_ret
        exact ⟨rfl, by rw [← HB'.out]; exact HD2.out, HT2.out⟩
      · have htr : TS [w1.heap.size] wr w2 := TS.tb htb (by simp)
        have hDC := HC.out.ts htr (by simp only [List.mem_singleton]; rintro x rfl; exact HRN.out)
        have hmg := mget_of_mem (by rw [hDC.vals.keys]; exact HNM.out) hmem
        rcases hDC.vals.get k with ⟨e1, -⟩ | ⟨A, ca, x, e1, hcg, hr, hca, -, -⟩
        · rw [hmg] at e1; cases e1
        · obtain rfl : v = .slice A x.length ca := by rw [hmg] at e1; cases e1; rfl
          obtain ⟨i, hi, hix⟩ := cget_some_at hcg
          have hpm := HOK.out.M _ (List.mem_of_getElem? hix)
          simp only at hpm
          obtain ⟨kn, rfl⟩ : ∃ kn : Nat, k = (kn : Int) := ⟨k.toNat, by omega⟩
          have hkn : kn < n := by omega
          have HXL := Lib.hid hpm.2.2
          have HDC := Lib.hid hDC
          have HST := Lib.hid (HFB.out.step hkn HXL.out hcg)
          have HRX := Lib.hid hr
          have HIT2 := Lib.hid hit2
          have HTR := Lib.hid htb
          have HWH := Lib.hid (hDC.whole ⟨HFB.out.1, HOK.out.n1, HOK.out.n2, HOK.out.M, HD1.out.ok.f⟩)
          have HLE := Lib.hid (show w2.rangeLeft gm w1.heap.size < wr.rangeLeft gm w1.heap.size from by rw [hit2.left_eq, HI.out.left_eq]; exact hlt)
          rw [HXL.out] at hen hrun
          have HQ0 := Lib.hid (row4 hDC.row).1
          clear hDC hmg e1 hcg hr hca hi hix hpm hit2 htb htr hmem hlk hlt
          go_wp2_with (at_next; refine wpList_next_run rfl _ rfl _ rfl hrun ?_)
          refine (dsk_sector HWH.out kn hkn).mono ?_
          rintro e w' ⟨gb2, c3, rfl, k1, k2, -, hc0, rfl⟩
          obtain ⟨rfl, hcc⟩ : gb2 = gb ∧ c = c3 + 512 * kn := by
            have := HQ0.out
            rw [this] at hc0
            simp only [Option.some.injEq, Value.slice.injEq, Addr.mk.injEq] at hc0
            exact ⟨hc0.1.1.symm, hc0.2.2⟩
          obtain ⟨w6, hrun6, hown, htb6⟩ := run_copy_sec HDC.out.bytes (512 * kn) 512 c3 A ca x HRX.out (by rw [HXL.out]; exact Nat.le_refl _) (by rw [HXL.out, HFB.out.1]; omega)
          rw [HXL.out] at hrun6
          obtain ⟨hd6, ht6⟩ := HDC.out.copied _ hown htb6
          have HD6 := Lib.hid hd6
          have HT6 := Lib.hid (show TS F w1 w6 from by
            refine (HT.out.trans (TS.tb HTR.out (List.mem_singleton.2 rfl) : TS [w1.heap.size] wr w2) (fun x hx => .inr (by simp only [List.mem_singleton] at hx; omega))).then ht6)
          have hlt2 := HIT2.out.lt
          have hgm : gb2 ≠ gm := fun e => by have := HDC.out.nodup; simp [dctl, e] at this
          have hgr : gb2 ≠ w1.heap.size := fun e => HRN.out (e ▸ HDC.out.mem gb2 (by simp [dctl]))
          have HIT6 := Lib.hid (HIT2.out.move (w' := w6) (htb6.out.block _ hlt2.1 (by simpa using fun e => hgm e.symm)) (htb6.out.block _ hlt2.2.1 (by simpa using fun e => hgr e.symm)))
          have HLE6 := Lib.hid (show w6.rangeLeft gm w1.heap.size < wr.rangeLeft gm w1.heap.size from by rw [HIT6.out.left_eq, ← HIT2.out.left_eq]; exact HLE.out)
          clear hown htb6 hd6 ht6 hc0 hcc hlt2 hgm hgr
          go_wp2_with (refine wpList_copy_by rfl _ _ _ _ rfl _ _ rfl rfl hrun6 ?_)
          go_frame
          go_roundw
          case rel => exact ⟨_, _, _, HIT6.out, HD6.out, HT6.out, HST.out⟩
          case measure => exact HLE6.out
end Go.Proofs.Ytoidlmhebnlnbaa
