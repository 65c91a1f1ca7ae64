/- Walks and laws that the claim's last text stands on, several texts in one file: DskB, DskC, DskD, DskE, DskF. Under the hypotheses that each theorem states. -/
import Derived.Laws.CopyOwn
import Derived.Test.YtihljjfnjclefaaMRta
import Derived.Test.YtihljjfnjclefaaMRtb
import Derived.Test.YtihljjfnjclefaaMRtc
import Derived.Test.YtihljjfnjclefaaMRtd
import Derived.Test.YtihljjfnjclefaaMRte
import Derived.Test.YtihljjfnjclefaaMRtf
import Derived.Test.YtihljjfnjclefaaMRtg
/- A disk: the walks through sector, Read. -/
set_option linter.unusedVariables false
set_option linter.unusedSimpArgs false
namespace Go.Proofs.Ytihljjfnjclefaa
open Go.ChangeShapes Go.WideShapes Go.ChangeAt Go.RowKit Go.MapKept

/-- x[k:k+n]. -/
theorem cut_at (A : Option Addr) (c : Nat) (xs : List Byte) (k n : Nat) (hk : k + n ≤ xs.length) (hc : xs.length ≤ c) :
    ∃ A', (∀ W, (Instr.slice 22 (.slice A xs.length c) (some (.int .i64 (k : Int))) (some (.int .i64 ((k : Int) + (n : Int)))) none).run Try.prog W = .ok (.slice A' n (c - k)) W) ∧ (∀ w, Rd w A xs → Rd w A' ((xs.drop k).take n)) ∧ (c ≠ k → A' = A.map (·.add k)) := by
  obtain ⟨i, hi, _, hsz, _⟩ := info_parts info_u8
  refine ⟨if c = k then A else A.map (·.add k), fun W => ?_, fun w h => ?_, fun h => if_neg h⟩
  · have hel : Try.prog.elem 22 = 5 := by simp [Program.elem, Try.underlying22]
    have hu : Try.prog.underlying 22 = some (.slice (Try.prog.elem 22)) := by rw [hel]; exact Try.underlying22
    rw [run_slice_lh W 22 A xs.length c hu .i64 .i64 (k : Int) ((k : Int) + (n : Int)) (Int.natCast_nonneg _) (by omega) (by omega), hel]
    simp [sizeOf, typeInfo, hi, hsz, sliced, Result.andThen]
    omega
  · by_cases hck : c = k
    · have : n = 0 := by omega
      subst this
      rw [List.take_zero]; exact Rd.nil _ _
    · rw [if_neg hck]
      apply Rd.take
      intro j hj
      simp only [vbs_length, List.length_drop] at hj
      obtain ⟨b, o, rfl, hb, hcell⟩ := h.form (by omega)
      refine ⟨b, o + k, ?_, ?_⟩
      · have : (⟨b, o, none⟩ : Addr).add k = ⟨b, o + k, none⟩ := by unfold Addr.add; split <;> simp_all
        simp [this]
      · have := hcell (k + j) (by omega)
        rw [Nat.add_assoc, this]
        simp [vbs]
/-- A sector's bytes. -/
def sec (b : List Byte) (k : Nat) : List Byte := (b.drop (512 * k)).take 512
theorem sec_len {b : List Byte} {n k : Nat} (h : b.length = 512 * n) (hk : k < n) : (sec b k).length = 512 := by
  unfold sec; rw [List.length_take, List.length_drop, h]; omega
/-- The bytes' block, and what it holds. -/
theorem Dsk.bytes {w : World} {F : List Nat} {g n : Nat} {D : DiskSt} (h : Dsk w F g n D) : ∃ gb c, w.cell? ⟨g, 0, none⟩ = some (.slice (some ⟨gb, 0, none⟩) (512 * n) c) ∧ Own w 0 (.slice (some ⟨gb, 0, none⟩) (512 * n) c) D.b ∧ gb ∈ F := by
  obtain ⟨gb, c, gm, O, oc, L, V, h1, h2, h3, h4, h5, h6, h7, h8, h9, h10⟩ := h
  exact ⟨gb, c, (row4 h1).1, h2, h8 gb (by simp)⟩
set_option maxRecDepth 100000 in
set_option maxHeartbeats 1000000 in
theorem dsk_sector {w : World} {F : List Nat} {g n : Nat} {D : DiskSt} (h : Dsk w F g n D) (k : Nat) (hk : k < n) :
    Calls Try.prog 58 #[.pointer (some ⟨g, 0, none⟩), .int .i64 (k : Int)] w fun e w' => ∃ gb c, e = .returned (.slice (some ⟨gb, 512 * k, none⟩) 512 c) ∧ 512 ≤ c ∧ c ≤ maxLen ∧ Rd w (some ⟨gb, 512 * k, none⟩) (sec D.b k) ∧ w.cell? ⟨g, 0, none⟩ = some (.slice (some ⟨gb, 0, none⟩) (512 * n) (c + 512 * k)) ∧ w = w' := by
  obtain ⟨gb, c, q0, ho, -⟩ := h.bytes
  obtain ⟨i1, i2, i3, i4, -⟩ := Own.info ho
  have hok := h.ok
  have hn2 := hok.n2
  have hlen := hok.len
  obtain ⟨A', hcut, hcr, hA⟩ := cut_at (some ⟨gb, 0, none⟩) c D.b (512 * k) 512 (by omega) i1
  have hadd : (⟨gb, 0, none⟩ : Addr).add (512 * k) = ⟨gb, 512 * k, none⟩ := by
    unfold Addr.add; split
    · rename_i h; rw [h]
    · simp
  rw [hA (by omega)] at hcut hcr
  simp only [Option.map_some, hadd] at hcut hcr
  rw [hlen] at hcut
  have HCR := Lib.hid (hcr w i3)
  have HC := Lib.hid (show 512 ≤ c - 512 * k ∧ c - 512 * k ≤ maxLen ∧ (c - 512 * k) + 512 * k = c from ⟨by omega, by omega, by omega⟩)
  have hcut2 : ∀ W, (Instr.slice 22 (.slice (some ⟨gb, 0, none⟩) (512 * n) c) (some (.int .i64 ((k : Int) * 512))) (some (.int .i64 (((k : Int) + 1) * 512))) none).run Try.prog W = .ok (.slice (some ⟨gb, 512 * k, none⟩) 512 (c - 512 * k)) W := fun W => by
    have := hcut W
    rw [show ((512 * k : Nat) : Int) = (k : Int) * 512 by omega, show (k : Int) * 512 + ((512 : Nat) : Int) = ((k : Int) + 1) * 512 by omega] at this
    exact this
  have hw1 : IntKind.i64.wrap ((k : Int) * 512) = (k : Int) * 512 := by rw [IntKind.wrap_i64]; omega
  have hw2 : IntKind.i64.wrap ((k : Int) + 1) = (k : Int) + 1 := by rw [IntKind.wrap_i64]; omega
  have hw3 : IntKind.i64.wrap (((k : Int) + 1) * 512) = ((k : Int) + 1) * 512 := by rw [IntKind.wrap_i64]; omega
  have HQ := Lib.hid q0
  clear h ho i1 i2 i3 i4 hcut hcr hA hok
  go_enter Try.func58, Try.ntmps58
  go_wp2
  go_ret
  exact ⟨gb, c - 512 * k, rfl, HC.out.1, HC.out.2.1, HCR.out, by rw [HC.out.2.2]; exact HQ.out, rfl⟩
theorem zeroB (w : World) : (zeroValue 22).run Try.prog w = .ok (.slice none 0 0) w := by kernel_rfl
/-- A sector looked for in the cache. -/
theorem Dsk.look {w : World} {F : List Nat} {g n : Nat} {D : DiskSt} (h : Dsk w F g n D) (k : Int) : ∃ gm, w.cell? ⟨g, 1, none⟩ = some (.map (some gm)) ∧
    ((cget D.M k = none ∧ ∀ ok, (Instr.lookup 97 (.map (some gm)) (.int .i64 k) ok).run Try.prog w = .ok (if ok then .tuple #[.slice none 0 0, .bool false] else .slice none 0 0) w) ∨
     ∃ A c x, cget D.M k = some x ∧ (∀ ok, (Instr.lookup 97 (.map (some gm)) (.int .i64 k) ok).run Try.prog w = .ok (if ok then .tuple #[.slice A x.length c, .bool true] else .slice A x.length c) w) ∧ Rd w A x ∧ x.length ≤ c ∧ c ≤ maxLen ∧ ∀ ad, A = some ad → ad.block ∈ F) := by
  obtain ⟨gb, c, gm, O, oc, L, V, h1, h2, h3, h4, h5, h6, h7, h8, h9, h10⟩ := h
  refine ⟨gm, (row4 h1).2.1, ?_⟩
  have hl := fun ok => map_lookup Try.underlying97 Try.underlying3 h3 k ok (zeroB w)
  rcases h4.get k with ⟨e1, e2⟩ | ⟨A, c', x, e1, e2, hr, k1, k2, k3⟩
  · left
    refine ⟨e2, fun ok => ?_⟩
    rw [hl ok, e1]; rfl
  · right
    refine ⟨A, c', x, e2, fun ok => ?_, hr, k1, k2, fun ad ha => (k3 ad ha).1⟩
    rw [hl ok, e1]; rfl
/-- What Read returns, and leaves. -/
def sdRead (D : DiskSt) (n : Nat) (k : Int) : List Byte × Int × DiskSt :=
  if k < 0 ∨ (n : Int) ≤ k then ([], 2, D) else if (ffail D.fuse).1 then ([], 8, { D with fuse := (ffail D.fuse).2 })
  else ((cget D.M k).getD (sec D.b k.toNat), 0, { D with fuse := (ffail D.fuse).2 })
set_option maxRecDepth 100000 in
set_option maxHeartbeats 1000000 in
theorem dsk_Read {w : World} {F : List Nat} {g n : Nat} {D : DiskSt} (h : Dsk w F g n D) (k : Int) :
    Calls Try.prog 68 #[.pointer (some ⟨g, 0, none⟩), .int .i64 k] w fun e w' => ∃ A c, e = .returned (.tuple #[.slice A (sdRead D n k).1.length c, .int .i64 (sdRead D n k).2.1]) ∧ Rd w' A (sdRead D n k).1 ∧ (∀ ad, A = some ad → w.heap.size ≤ ad.block) ∧ Dsk w' F g n (sdRead D n k).2.2 ∧ TS F w w' ∧ (sdRead D n k).1.length ≤ c ∧ c ≤ maxLen := by
  have H := Lib.hid h
  unfold sdRead
  by_cases hneg : k < 0
  · rw [if_pos (.inl hneg)]
    clear h
    go_enter Try.func68, Try.ntmps68
    go_wp2_with fail
    refine (dsk_made H.out).mono ?_
    rintro e w1 ⟨rfl, rfl⟩
    go_wp2
    go_ret2
    exact ⟨none, 0, rfl, Rd.nil _ _, fun ad ha => (by cases ha), H.out, TS.refl _ _, by simp, by simp [maxLen]⟩
  · by_cases hbig : (n : Int) ≤ k
    · rw [if_pos (.inr hbig)]
      clear h
      go_enter Try.func68, Try.ntmps68
      go_wp2_with fail
      refine (dsk_made H.out).mono ?_
      rintro e w1 ⟨rfl, rfl⟩
      go_wp2_with fail
      refine (dsk_Sectors H.out).mono ?_
      rintro e w1 ⟨rfl, rfl⟩
      go_wp2
      go_ret2
      exact ⟨none, 0, rfl, Rd.nil _ _, fun ad ha => (by cases ha), H.out, TS.refl _ _, by simp, by simp [maxLen]⟩
    · rw [if_neg (by omega)]
      have HFA := Lib.hid (dsk_fails h)
      cases hff : (ffail D.fuse).1 with
      | true =>
        rw [if_pos rfl]
        rw [hff] at HFA
        clear h hff
        go_enter Try.func68, Try.ntmps68
        go_wp2_with fail
        refine (dsk_made H.out).mono ?_
        rintro e w1 ⟨rfl, rfl⟩
        go_wp2_with fail
        refine (dsk_Sectors H.out).mono ?_
        rintro e w1 ⟨rfl, rfl⟩
        go_wp2_with fail
        refine HFA.out.mono ?_
        rintro e w1 ⟨rfl, hd, ht⟩
        have HD1 := Lib.hid hd
        have HT1 := Lib.hid ht
        clear hd ht
        go_wp2
        go_ret2
        exact ⟨none, 0, rfl, Rd.nil _ _, fun ad ha => (by cases ha), HD1.out, HT1.out, by simp, by simp [maxLen]⟩
      | false =>
        rw [if_neg (by simp)]
        rw [hff] at HFA
        have hlen := h.ok
        obtain ⟨kn, rfl⟩ : ∃ kn : Nat, k = (kn : Int) := ⟨k.toNat, by omega⟩
        have hkn : kn < n := by omega
        have HSL := Lib.hid (sec_len hlen.len hkn)
        have HCM := Lib.hid (show ∀ x, cget D.M (kn : Int) = some x → x.length = 512 from fun x hx => by
          have hM := hlen.M
          clear hlen HFA hff
          revert hx hM
          generalize D.M = M
          induction M with
          | nil => intro hx _; cases hx
          | cons p M ih =>
            obtain ⟨pk, pv⟩ := p
            intro hx hM
            rw [cget] at hx
            by_cases h0 : pk = (kn : Int)
            · rw [if_pos h0] at hx; cases hx; exact (hM _ List.mem_cons_self).2.2
            · rw [if_neg h0] at hx; exact ih hx (fun p hp => hM p (List.mem_cons_of_mem _ hp)))
        simp only [Int.toNat_natCast]
        generalize (ffail D.fuse).2 = fz at *
        generalize hxx : (cget D.M (kn : Int)).getD (sec D.b kn) = xx
        clear h hff hlen
        go_enter Try.func68, Try.ntmps68
        go_wp2_with fail
        refine (dsk_made H.out).mono ?_
        rintro e w1 ⟨rfl, rfl⟩
        go_wp2_with fail
        refine (dsk_Sectors H.out).mono ?_
        rintro e w1 ⟨rfl, rfl⟩
        go_wp2_with fail
        refine HFA.out.mono ?_
        rintro e w1 ⟨rfl, hd, ht⟩
        have HD1 := Lib.hid hd
        have HT1 := Lib.hid ht
        obtain ⟨gm, q1, hlk⟩ := hd.look (kn : Int)
        clear hd ht
        rcases hlk with ⟨hc, hl⟩ | ⟨A, c, x, hc, hl, hr, k1, k2, k3⟩
        · have hl1 := hl true
          rw [if_pos rfl] at hl1
          have hxe : xx = sec D.b kn := by rw [← hxx, show cget D.M (kn : Int) = none from hc]; rfl
          have HX := Lib.hid hxe
          clear hc hl hxx hxe
          go_wp2_with fail
          refine (dsk_sector HD1.out kn hkn).mono ?_
          rintro e w2 ⟨gb, c, rfl, k1, k2, hr, -, rfl⟩
          have HR := Lib.hid hr
          clear hr
          go_wp2_with fail
          refine (sl_Clone (sec D.b kn) _ 512 c _ HSL.out.symm (by rw [HSL.out]; omega) HR.out).mono ?_
          rintro e w3 ⟨A3, c3, rfl, ho, hb⟩
          have HO3 := Lib.hid (Own.info ho)
          have HF3 := Lib.hid (show FB w1 w3 from hb)
          clear ho hb
          go_wp2
          go_ret2
          rw [HX.out]
          exact ⟨A3, c3, by rw [HSL.out]; rfl, HO3.out.2.2.1, fun ad ha => Nat.le_trans HT1.out.size ((HO3.out.2.2.2.2 ad ha).1), HD1.out.fb HF3.out, HT1.out.then (TS.of HF3.out), HO3.out.1, HO3.out.2.1⟩
        · have hl1 := hl true
          rw [if_pos rfl] at hl1
          have HXL := Lib.hid (HCM.out x hc)
          rw [HXL.out] at hl1 k1
          have hxe : xx = x := by rw [← hxx, show cget D.M (kn : Int) = some x from hc]; rfl
          have HX := Lib.hid hxe
          have HR := Lib.hid hr
          clear hc hl hr k3 hxx hxe
          go_wp2_with fail
          refine (sl_Clone x A 512 c _ HXL.out.symm (by rw [HXL.out]; omega) HR.out).mono ?_
          rintro e w3 ⟨A3, c3, rfl, ho, hb⟩
          have HO3 := Lib.hid (Own.info ho)
          have HF3 := Lib.hid (show FB w1 w3 from hb)
          clear ho hb
          go_wp2
          go_ret2
          rw [HX.out]
          exact ⟨A3, c3, by rw [HXL.out]; rfl, HO3.out.2.2.1, fun ad ha => Nat.le_trans HT1.out.size ((HO3.out.2.2.2.2 ad ha).1), HD1.out.fb HF3.out, HT1.out.then (TS.of HF3.out), HO3.out.1, HO3.out.2.1⟩
end Go.Proofs.Ytihljjfnjclefaa
/- A disk, with its parts named; the order made longer; the cache written. -/
set_option linter.unusedVariables false
set_option linter.unusedSimpArgs false
namespace Go.Proofs.Ytihljjfnjclefaa
open Go.ChangeShapes Go.WideShapes Go.ChangeAt Go.RowKit Go.MapKept

def dctl (g gb gm : Nat) (O : Option Addr) (L : Option Nat) : List Nat := [g, gb, gm] ++ (optBlk O ++ L.toList)
/-- A disk's parts: its order may stand apart from its cache (between two steps of Write). -/
structure DskC (w : World) (F : List Nat) (g n gb c gm : Nat) (O : Option Addr) (oc : Nat) (L : Option Nat) (V : List (Int × Value)) (D : DiskSt) (ord : List Int) : Prop where
  row : w.heap[g]? = some (.cells #[.slice (some ⟨gb, 0, none⟩) (512 * n) c, .map (some gm), .slice O ord.length oc, .pointer (L.map fun l => ⟨l, 0, none⟩)] 100 (0, 0))
  bytes : Own w 0 (.slice (some ⟨gb, 0, none⟩) (512 * n) c) D.b
  map : MapAt w gm V
  vals : Vals w F (dctl g gb gm O L) V D.M
  order : OwnV 3 w 0 (.slice O ord.length oc) (ord.map fun k => .int .i64 k)
  fuse : FuseAt w L D.fuse
  nodup : (dctl g gb gm O L).Nodup
  mem : ∀ x ∈ dctl g gb gm O L, x ∈ F
  lt : ∀ x ∈ F, x < w.heap.size
theorem Dsk.parts {w : World} {F : List Nat} {g n : Nat} {D : DiskSt} (h : Dsk w F g n D) : ∃ gb c gm O oc L V, DskC w F g n gb c gm O oc L V D (D.M.map (·.1)) := by
  obtain ⟨gb, c, gm, O, oc, L, V, h1, h2, h3, h4, h5, h6, h7, h8, h9, h10⟩ := h
  refine ⟨gb, c, gm, O, oc, L, V, ⟨by rw [List.length_map]; exact h1, h2, h3, h4, ?_, h6, h7, h8, h10⟩⟩
  rw [List.length_map, List.map_map]; exact h5
theorem DskC.whole {w : World} {F : List Nat} {g n gb c gm : Nat} {O : Option Addr} {oc : Nat} {L : Option Nat} {V : List (Int × Value)} {D : DiskSt} (h : DskC w F g n gb c gm O oc L V D (D.M.map (·.1))) (hk : D.ok n) : Dsk w F g n D := by
  have h1 := h.row
  have h5 := h.order
  rw [List.length_map] at h1 h5
  rw [List.map_map] at h5
  exact ⟨gb, c, gm, O, oc, L, V, h1, h.bytes, h.map, h.vals, h5, h.fuse, h.nodup, h.mem, hk, h.lt⟩
section
variable {w w' : World} {F : List Nat} {g n gb c gm : Nat} {O : Option Addr} {oc : Nat} {L : Option Nat} {V : List (Int × Value)} {D : DiskSt} {ord : List Int}
/-- Something else has turned. -/
theorem DskC.ts {F' : List Nat} (h : DskC w F g n gb c gm O oc L V D ord) (k : TS F' w w') (hd : ∀ x ∈ F', x ∉ F) : DskC w' F g n gb c gm O oc L V D ord := by
  have hn : ∀ x ∈ dctl g gb gm O L, x ∉ F' := fun x hx hf => hd x hf (h.mem x hx)
  refine ⟨?_, ?_, ?_, ?_, ?_, ?_, h.nodup, h.mem, fun x hx => Nat.lt_of_lt_of_le (h.lt x hx) k.size⟩
  · rw [k.block g (Array.getElem?_eq_some_iff.1 h.row).1 (hn g (by simp [dctl]))]; exact h.row
  · exact k.ownV h.bytes (fun b hb => by cases hb; exact hn gb (by simp [dctl]))
  · exact h.map.ts k (hn gm (by simp [dctl]))
  · exact h.vals.move (fun A x hr hb => k.rd hr (fun ad ha hf => hd _ hf (hb ad ha).1)) (fun b h h' => ⟨h, h'⟩)
  · exact k.ownV h.order (fun b hb => by
      cases O with
      | none => cases hb
      | some ad => cases hb; exact hn _ (by simp [dctl, optBlk]))
  · have h6 := h.fuse
    unfold FuseAt at *
    revert h6
    generalize D.fuse = fz
    intro h6
    cases L with
    | none => cases fz with
      | none => trivial
      | some z => exact h6
    | some l => cases fz with
      | none => exact h6
      | some z =>
        simp only at h6 ⊢
        rw [k.block l (Array.getElem?_eq_some_iff.1 h6).1 (hn l (by simp [dctl]))]; exact h6
theorem DskC.fb (h : DskC w F g n gb c gm O oc L V D ord) (k : FB w w') : DskC w' F g n gb c gm O oc L V D ord := h.ts (F' := []) (TS.of k) (by simp)
theorem DskC.kept (h : DskC w F g n gb c gm O oc L V D ord) (hg : w.grownBy w' ((Value.slice O ord.length oc).ownBlock)) : w'.heap[g]? = some (.cells #[.slice (some ⟨gb, 0, none⟩) (512 * n) c, .map (some gm), .slice O ord.length oc, .pointer (L.map fun l => ⟨l, 0, none⟩)] 100 (0, 0)) := by
  rw [hg.block g (Array.getElem?_eq_some_iff.1 h.row).1 (fun e => by
    have hnd := h.nodup
    cases O with
    | none => cases e
    | some ad =>
      simp only [Value.ownBlock, Option.some.injEq] at e
      simp [dctl, optBlk, e] at hnd)]
  exact h.row
/-- The order made longer by one, and laid into the disk. -/
theorem DskC.longer (h : DskC w F g n gb c gm O oc L V D ord) (k : Int) (O' : Option Addr) (oc' : Nat) (ho : OwnV 3 w' 0 (.slice O' (ord.length + 1) oc') ((ord ++ [k]).map fun k => .int .i64 k))
    (hg : w.grownBy w' ((Value.slice O ord.length oc).ownBlock)) (hl : (Value.slice O' (ord.length + 1) oc').ownBlock = (Value.slice O ord.length oc).ownBlock ∨ (Value.slice O' (ord.length + 1) oc').ownBlock = some w.heap.size) :
    ∃ F', (∀ x ∈ F', x ∈ F ∨ w.heap.size ≤ x) ∧ DskC (w'.setCell ⟨g, 2, none⟩ (.slice O' (ord.length + 1) oc')) F' g n gb c gm O' oc' L V D (ord ++ [k]) ∧ TS F w (w'.setCell ⟨g, 2, none⟩ (.slice O' (ord.length + 1) oc')) := by
  have hts0 : TS (optBlk O) w w' := ⟨hg.os, hg.tape, hg.output, hg.size, fun x hx hn => hg.block x hx (fun e => hn (by
    cases O with
    | none => cases e
    | some ad => cases e; simp [optBlk]))⟩
  have hO' : ∀ x ∈ optBlk O', x ∈ optBlk O ∨ x = w.heap.size := by
    intro x hx
    cases O' with
    | none => cases hx
    | some ad =>
      simp only [optBlk, Option.toList_some, List.map_cons, List.map_nil, List.mem_singleton] at hx
      subst hx
      rcases hl with hl | hl
      · cases O with
        | none => cases hl
        | some ad' => left; simp only [Value.ownBlock, Option.some.injEq] at hl; simp [optBlk, hl]
      · right; simpa [Value.ownBlock] using hl
  have hctl : ∀ x ∈ dctl g gb gm O L, x < w.heap.size := fun x hx => h.lt x (h.mem x hx)
  have hnd := h.nodup
  unfold dctl at hnd
  have hgO : g ∉ optBlk O := fun hm => by
    simp only [List.cons_append, List.nil_append, List.nodup_cons] at hnd
    exact hnd.1 (by simp [hm])
  have hrow' : w'.heap[g]? = _ := (hts0.block g (Array.getElem?_eq_some_iff.1 h.row).1 hgO).trans h.row
  have hset : TS [g] w' (w'.setCell ⟨g, 2, none⟩ (.slice O' (ord.length + 1) oc')) := TS.tb (TB.set w' 2 _) (by simp)
  have hts : TS (g :: optBlk O) w (w'.setCell ⟨g, 2, none⟩ (.slice O' (ord.length + 1) oc')) := (hts0.trans (F := optBlk O) (F' := optBlk O) (TS.refl _ _) (fun x hx => .inl hx)) |> fun q => ⟨hset.os.trans q.os, hset.tape.trans q.tape, hset.output.trans q.output, Nat.le_trans q.size hset.size, fun x hx hn => (hset.block x (Nat.lt_of_lt_of_le hx q.size) (fun e => hn (by simp at e; simp [e]))).trans (q.block x hx (fun e => hn (by simp [e])))⟩
  have hx1 : ∀ x ∈ [gb, gm] ++ L.toList, x ∉ g :: optBlk O := by
    intro x hx hm
    simp only [List.cons_append, List.nil_append, List.nodup_cons, List.mem_cons, List.mem_append, not_or] at hnd
    obtain ⟨⟨a1, a2, a3, a4⟩, ⟨b1, b2, b3⟩, ⟨c1, c2⟩, d⟩ := hnd
    rw [List.nodup_append] at d
    simp only [List.mem_cons] at hm
    simp only [List.cons_append, List.nil_append, List.mem_cons] at hx
    rcases hx with rfl | rfl | hx
    · rcases hm with rfl | hm
      · exact a1 rfl
      · exact b2 hm
    · rcases hm with rfl | hm
      · exact a2 rfl
      · exact c1 hm
    · rcases hm with rfl | hm
      · exact a4 hx
      · exact d.2.2 x hm x hx rfl
  refine ⟨optBlk O' ++ F, ?_, ⟨?_, ?_, ?_, ?_, ?_, ?_, ?_, ?_, ?_⟩, hts.trans (F' := []) (TS.refl _ _) (by simp) |> fun q => ⟨q.os, q.tape, q.output, q.size, fun x hx hn => q.block x hx (fun e => hn (by
    simp only [List.mem_cons] at e
    rcases e with rfl | e
    · exact h.mem _ (by simp [dctl])
    · exact h.mem _ (by simp [dctl, e])))⟩⟩
  · intro x hx
    simp only [List.mem_append] at hx
    rcases hx with hx | hx
    · rcases hO' x hx with hx | hx
      · exact .inl (h.mem x (by simp [dctl, hx]))
      · exact .inr (by omega)
    · exact .inl hx
  · rw [heap_setCell_same _ _ _ _ _ _ hrow']
    simp
  · exact hts.ownV h.bytes (fun b hb => by cases hb; exact hx1 gb (by simp))
  · exact h.map.ts hts (hx1 gm (by simp))
  · refine h.vals.move (fun A x hr hb => hts.rd hr (fun ad ha hf => (hb ad ha).2 ?_)) (fun b hb hb' => ⟨by simp [hb], fun hm => ?_⟩)
    · simp only [List.mem_cons] at hf
      rcases hf with hf | hf
      · simp [dctl, hf]
      · simp [dctl, hf]
    · simp only [dctl, List.mem_append] at hm hb'
      rcases hm with hm | hm | hm
      · exact hb' (.inl hm)
      · rcases hO' b hm with hm | hm
        · exact hb' (.inr (.inl hm))
        · have := h.lt b hb; omega
      · exact hb' (.inr (.inr hm))
  · rw [List.length_append]
    have hOg : ∀ b, (Value.slice O' (ord.length + 1) oc').ownBlock = some b → b ∉ [g] := by
      intro b hb hm
      simp only [List.mem_singleton] at hm
      subst hm
      have hbm : b ∈ optBlk O' := by
        cases O' with
        | none => cases hb
        | some ad => cases hb; simp [optBlk]
      rcases hO' b hbm with hm | hm
      · exact hgO hm
      · have := hctl b (by simp [dctl]); omega
    exact hset.ownV ho hOg
  · have h6 := h.fuse
    unfold FuseAt at *
    revert h6
    generalize D.fuse = fz
    intro h6
    cases L with
    | none => cases fz with
      | none => trivial
      | some z => exact h6
    | some l => cases fz with
      | none => exact h6
      | some z =>
        simp only at h6 ⊢
        rw [hts.block l (Array.getElem?_eq_some_iff.1 h6).1 (hx1 l (by simp))]; exact h6
  · have hO1 : (optBlk O').Nodup := by cases O' <;> simp [optBlk]
    simp only [dctl, List.cons_append, List.nil_append, List.nodup_cons, List.mem_cons, List.mem_append, not_or] at hnd ⊢
    obtain ⟨⟨a1, a2, a3, a4⟩, ⟨b1, b2, b3⟩, ⟨c1, c2⟩, d⟩ := hnd
    rw [List.nodup_append] at d ⊢
    have hno : ∀ x, x < w.heap.size → x ∉ optBlk O → x ∉ optBlk O' := fun x hx hn hm => by
      rcases hO' x hm with h | h
      · exact hn h
      · omega
    refine ⟨⟨a1, a2, hno g (hctl g (by simp [dctl])) a3, a4⟩, ⟨b1, hno gb (hctl gb (by simp [dctl])) b2, b3⟩, ⟨hno gm (hctl gm (by simp [dctl])) c1, c2⟩, hO1, d.2.1, fun a ha b hb => ?_⟩
    rintro rfl
    exact hno a (hctl a (by simp [dctl, hb])) (fun hm => d.2.2 a hm a hb rfl) ha
  · intro x hx
    simp only [dctl, List.mem_append] at hx ⊢
    rcases hx with hx | hx | hx
    · exact .inr (h.mem x (by simp [dctl] at hx ⊢; rcases hx with hx | hx | hx <;> simp [hx]))
    · exact .inl hx
    · exact .inr (h.mem x (by simp [dctl, hx]))
  · intro x hx
    simp only [List.mem_append] at hx
    have hsz : w.heap.size ≤ (w'.setCell ⟨g, 2, none⟩ (.slice O' (ord.length + 1) oc')).heap.size := hts.size
    rcases hx with hx | hx
    · cases O' with
      | none => cases hx
      | some ad =>
        simp only [optBlk, Option.toList_some, List.map_cons, List.map_nil, List.mem_singleton] at hx
        subst hx
        have := (OwnV.base ho ad.block rfl).2
        simpa using this
    · have := h.lt x hx; omega
/-- A sector's bytes laid into the cache. -/
theorem DskC.stored (h : DskC w F g n gb c gm O oc L V D ord) (k : Int) {A : Option Addr} {ca : Nat} {x : List Byte} (hr : Rd w A x) (h1 : x.length ≤ ca) (h2 : ca ≤ maxLen) (hA : ∀ ad, A = some ad → ad.block < w.heap.size ∧ ad.block ∉ F)
    (hup : MapAt w' gm (mput V k (.slice A x.length ca))) (htb : TB gm w w') :
    ∃ F', (∀ y ∈ F', y ∈ F ∨ y ∈ optBlk A) ∧ DskC w' F' g n gb c gm O oc L (mput V k (.slice A x.length ca)) { D with M := cput D.M k x } ord ∧ TS F w w' := by
  have hts : TS [gm] w w' := TS.tb htb (by simp)
  have hnd := h.nodup
  unfold dctl at hnd
  have hne : ∀ y ∈ [g, gb] ++ (optBlk O ++ L.toList), y ∉ [gm] := by
    intro y hy hm
    simp only [List.mem_singleton] at hm
    subst hm
    simp only [List.cons_append, List.nil_append, List.nodup_cons, List.mem_cons, List.mem_append, not_or] at hnd hy
    obtain ⟨⟨a1, a2, a3, a4⟩, ⟨b1, b2, b3⟩, ⟨c1, c2⟩, d⟩ := hnd
    rcases hy with rfl | rfl | hy | hy
    · exact a2 rfl
    · exact b1 rfl
    · exact c1 hy
    · exact c2 hy
  have hAF : ∀ ad, A = some ad → ad.block ∉ dctl g gb gm O L := fun ad ha hm => (hA ad ha).2 (h.mem _ hm)
  refine ⟨optBlk A ++ F, fun y hy => by simp only [List.mem_append] at hy; exact hy.symm, ⟨?_, ?_, hup, ?_, ?_, ?_, h.nodup, fun y hy => by simp [h.mem y hy], ?_⟩, TS.tb htb (h.mem gm (by simp [dctl]))⟩
  · rw [hts.block g (Array.getElem?_eq_some_iff.1 h.row).1 (hne g (by simp))]; exact h.row
  · exact hts.ownV h.bytes (fun b hb => by cases hb; exact hne gb (by simp))
  · refine Vals.put ?_ k (hts.rd hr (fun ad ha hm => hAF ad ha (by simp at hm; simp [dctl, hm]))) h1 h2 (fun ad ha => ⟨by simp [optBlk, ha], hAF ad ha⟩)
    exact h.vals.move (fun A x hr hb => hts.rd hr (fun ad ha hf => (hb ad ha).2 (by simp at hf; simp [dctl, hf]))) (fun b hb hb' => ⟨by simp [hb], hb'⟩)
  · exact hts.ownV h.order (fun b hb => by
      cases O with
      | none => cases hb
      | some ad => cases hb; exact hne _ (by simp [optBlk]))
  · have h6 := h.fuse
    unfold FuseAt at *
    simp only
    revert h6
    generalize D.fuse = fz
    intro h6
    cases L with
    | none => cases fz with
      | none => trivial
      | some z => exact h6
    | some l => cases fz with
      | none => exact h6
      | some z =>
        simp only at h6 ⊢
        rw [hts.block l (Array.getElem?_eq_some_iff.1 h6).1 (hne l (by simp))]; exact h6
  · intro y hy
    simp only [List.mem_append] at hy
    rcases hy with hy | hy
    · cases A with
      | none => cases hy
      | some ad =>
        simp only [optBlk, Option.toList_some, List.map_cons, List.map_nil, List.mem_singleton] at hy
        subst hy
        exact Nat.lt_of_lt_of_le (hA ad rfl).1 hts.size
    · exact Nat.lt_of_lt_of_le (h.lt y hy) hts.size
end
theorem cput_none {M : List (Int × List Byte)} {k : Int} (h : cget M k = none) (x : List Byte) : (cput M k x).map (·.1) = M.map (·.1) ++ [k] := by
  induction M with
  | nil => rfl
  | cons p M ih =>
    obtain ⟨pk, pv⟩ := p
    rw [cget] at h
    rw [cput]
    by_cases h0 : pk = k
    · rw [if_pos h0] at h; cases h
    · rw [if_neg h0] at h ⊢; simp [ih h]
theorem cput_some {M : List (Int × List Byte)} {k : Int} {y : List Byte} (h : cget M k = some y) (x : List Byte) : (cput M k x).map (·.1) = M.map (·.1) := by
  induction M with
  | nil => cases h
  | cons p M ih =>
    obtain ⟨pk, pv⟩ := p
    rw [cget] at h
    rw [cput]
    by_cases h0 : pk = k
    · rw [if_pos h0]; simp [h0]
    · rw [if_neg h0] at h ⊢; simp [ih h]
theorem cput_mem {M : List (Int × List Byte)} {k : Int} {x : List Byte} : ∀ p ∈ cput M k x, p = (k, x) ∨ p ∈ M := by
  induction M with
  | nil => intro p hp; simp [cput] at hp; exact .inl hp
  | cons q M ih =>
    obtain ⟨pk, pv⟩ := q
    intro p hp
    rw [cput] at hp
    by_cases h0 : pk = k
    · rw [if_pos h0] at hp
      simp only [List.mem_cons] at hp
      rcases hp with rfl | hp
      · exact .inl rfl
      · exact .inr (List.mem_cons_of_mem _ hp)
    · rw [if_neg h0] at hp
      simp only [List.mem_cons] at hp
      rcases hp with rfl | hp
      · exact .inr List.mem_cons_self
      · rcases ih p hp with h | h
        · exact .inl h
        · exact .inr (List.mem_cons_of_mem _ h)
theorem DiskSt.ok.put {D : DiskSt} {n : Nat} (h : D.ok n) {k : Int} {x : List Byte} (h0 : 0 ≤ k) (h1 : k < n) (h2 : x.length = 512) : DiskSt.ok { D with M := cput D.M k x } n :=
  ⟨h.len, h.n1, h.n2, fun p hp => by
    rcases cput_mem p hp with rfl | hp
    · exact ⟨h0, h1, h2⟩
    · exact h.M p hp, h.f⟩
end Go.Proofs.Ytihljjfnjclefaa
/- A disk: the walk through Write. -/
set_option linter.unusedVariables false
set_option linter.unusedSimpArgs false
namespace Go.Proofs.Ytihljjfnjclefaa
open Go.ChangeShapes Go.WideShapes Go.ChangeAt Go.RowKit Go.MapKept

theorem sch_mapUpdate {P : Program} {ops : Array Oper} {Q : Exit → Act → World → Prop} {E : World → World → Prop} {i : Nat} {σ : List (Nat × Bool)} {o : Oper} {a : Act} {w w' : World} (hi : ops[i]? = some o) (hw : Region.wanted o (yielded ops a.tmps) = true)
    (ty : TypeId) (x y z : Operand) (ho : o.op = .mapUpdate ty x y z) (vx vy vz : Value) (hx : a.eval x = vx) (hy : a.eval y = vy) (hz : a.eval z = vz) (hr : (Instr.mapUpdate ty vx vy vz).run P w = .ok () w') (hE : E w w') (h : wpSch P ops Q E σ (a.put o.dst undef) w') : wpSch P ops Q E ((i, false) :: σ) a w := by
  subst hx hy hz
  exact sch_eff hi hw fun K hK => by
    unfold Oper.wp execOp
    simp only [ho, Sem.run_bind, Sem.run_pure, Result.andThen_ok, hr]
    exact hK _ _ hE h
theorem info_int : (Try.prog.info? 3).map (fun i => (i.zero, i.size, i.bytes)) = some (some (.int .i64 0), 1, 8) := by kernel_rfl
theorem keys_len : ∀ (n : Nat) (l : List Int), l.Nodup → (∀ x ∈ l, 0 ≤ x ∧ x < (n : Int)) → l.length ≤ n
  | 0, l, _, h => by
    cases l with
    | nil => simp
    | cons x l => have := h x List.mem_cons_self; omega
  | n + 1, l, hn, h => by
    have h1 := keys_len n (l.erase (n : Int)) (hn.erase _) (fun x hx => by
      rw [hn.mem_erase_iff] at hx
      have := h x hx.2
      omega)
    rw [List.length_erase] at h1
    split at h1 <;> omega
/-- What Write returns, and leaves. -/
def sdWrite (D : DiskSt) (n : Nat) (k : Int) (xs : List Byte) : Int × DiskSt :=
  if k < 0 ∨ (n : Int) ≤ k ∨ xs.length ≠ 512 then (2, D) else if (ffail D.fuse).1 then (8, { D with fuse := (ffail D.fuse).2 })
  else (0, { D with fuse := (ffail D.fuse).2, M := cput D.M k xs })
set_option maxRecDepth 100000 in
set_option maxHeartbeats 1000000 in
theorem dsk_Write {w : World} {F : List Nat} {g n : Nat} {D : DiskSt} (h : Dsk w F g n D) (k : Int) (A : Option Addr) (m ca : Nat) (xs : List Byte) (hm : m = xs.length) (hl : xs.length ≤ 100000000000) (hr : Rd w A xs) (hAF : ∀ ad, A = some ad → ad.block ∉ F) :
    Calls Try.prog 70 #[.pointer (some ⟨g, 0, none⟩), .int .i64 k, .slice A m ca] w fun e w' => e = .returned (.int .i64 (sdWrite D n k xs).1) ∧ DskRes w F g n (sdWrite D n k xs).2 w' := by
  subst hm
  have H := Lib.hid h
  have HR := Lib.hid hr
  unfold sdWrite
  by_cases hneg : k < 0
  · rw [if_pos (.inl hneg)]
    clear h hr
    go_enter Try.func70, Try.ntmps70
    go_wp2_with fail
    refine (dsk_made H.out).mono ?_
    rintro e w1 ⟨rfl, rfl⟩
    go_wp2
    go_ret
    exact ⟨rfl, F, fun x hx => .inl hx, H.out, TS.refl _ _⟩
  · by_cases hbig : (n : Int) ≤ k
    · rw [if_pos (.inr (.inl hbig))]
      clear h hr
      go_enter Try.func70, Try.ntmps70
      go_wp2_with fail
      refine (dsk_made H.out).mono ?_
      rintro e w1 ⟨rfl, rfl⟩
      go_wp2_with fail
      refine (dsk_Sectors H.out).mono ?_
      rintro e w1 ⟨rfl, rfl⟩
      go_wp2
      go_ret
      exact ⟨rfl, F, fun x hx => .inl hx, H.out, TS.refl _ _⟩
    · by_cases hlen : xs.length = 512
      · rw [if_neg (by omega)]
        have HFA := Lib.hid (dsk_fails h)
        have HXL := Lib.hid hlen
        cases hff : (ffail D.fuse).1 with
        | true =>
          rw [if_pos rfl]
          rw [hff] at HFA
          clear h hff hr
          go_enter Try.func70, Try.ntmps70
          go_wp2_with fail
          refine (dsk_made H.out).mono ?_
          rintro e w1 ⟨rfl, rfl⟩
          go_wp2_with fail
          refine (dsk_Sectors H.out).mono ?_
          rintro e w1 ⟨rfl, rfl⟩
          go_wp2_with fail
          refine HFA.out.mono ?_
          rintro e w1 ⟨rfl, hd, ht⟩
          have HD1 := Lib.hid hd
          have HT1 := Lib.hid ht
          clear hd ht
          go_wp2
          go_ret
          exact ⟨rfl, F, fun x hx => .inl hx, HD1.out, HT1.out⟩
        | false =>
          rw [if_neg (by simp)]
          rw [hff] at HFA
          generalize (ffail D.fuse).2 = fz at *
          have hk0 : 0 ≤ k := by omega
          have hkn : k < (n : Int) := by omega
          rw [hlen]
          clear h hff hr hlen
          go_enter Try.func70, Try.ntmps70
          go_wp2_with fail
          refine (dsk_made H.out).mono ?_
          rintro e w1 ⟨rfl, rfl⟩
          go_wp2_with fail
          refine (dsk_Sectors H.out).mono ?_
          rintro e w1 ⟨rfl, rfl⟩
          go_wp2_with fail
          refine HFA.out.mono ?_
          rintro e w1 ⟨rfl, hd, ht⟩
          have HD1 := Lib.hid hd
          have HT1 := Lib.hid ht
          have HR1 := Lib.hid (ht.rd HR.out hAF)
          obtain ⟨gm, q1, hlk⟩ := hd.look k
          clear hd ht
          rcases hlk with ⟨hc, hl⟩ | ⟨A2, c2, x2, hc, hl, -, -, -, -⟩
          · have hl1 := hl true
            rw [if_pos rfl] at hl1
            have HC := Lib.hid (show cget D.M k = none from hc)
            clear hc hl
            obtain ⟨gb, c, gm', O, oc, L, V, hp⟩ := HD1.out.parts
            obtain ⟨p0, p1, p2, p3⟩ := row4 hp.row
            obtain rfl : gm = gm' := by rw [q1] at p1; cases p1; rfl
            have HP := Lib.hid hp
            have HNE := Lib.hid (show g ≠ gm from fun e => by have := hp.nodup; simp [dctl, e] at this)
            clear hp
            have hord := HP.out.order
            rw [List.length_map] at hord
            have hM := HP.out.vals.keys
            obtain ⟨es, clock, m1, m2, m3, m4, m5⟩ := HP.out.map
            rw [hM] at m5
            have hML := keys_len n (D.M.map (·.1)) m5 (fun x hx => by
              obtain ⟨p, hp, rfl⟩ := List.mem_map.1 hx
              have := HD1.out.ok.M p hp
              exact ⟨this.1, this.2.1⟩)
            rw [List.length_map] at hML
            have hn2 := HD1.out.ok.n2
            have HORD := Lib.hid hord
            have HML := Lib.hid (show D.M.length ≤ 32768 by omega)
            clear es clock m1 m2 m3 m4 m5 hM hord hML
            go_wp2_with (at_builtin; refine wpList_append_any rfl _ _ 91 3 8 (.int .i64 0) Try.underlying91 info_int rfl rfl 0 (.slice O D.M.length oc) _ (HORD.out.alloc _) rfl _ _ _ [.int .i64 k] rfl rfl (RdV.lit _ [.int .i64 k] _) (by simp [Value.oneCell']) (by have := HML.out; simp [maxLen]; omega) (by have := HML.out; simp; omega) (by simp) ?_; intro v' w2 ho hg hb; obtain ⟨O2, oc2, hv2, -, -, -, -⟩ := OwnV.form ho; subst hv2; rw [List.length_append, List.length_map, List.length_map, List.length_singleton] at ho hb ⊢; have hg' := hg; rw [← List.length_map (f := fun p : Int × List Byte => p.1)] at hg'; have hk2 := (HP.out.fb ((FB.refl w1).alloc (.cells #[.int .i64 k] 3))).kept hg'; obtain ⟨s0, s1, s2, s3⟩ := row4 hk2; have sf := frozen_row _ hk2 2; have HO2 := Lib.hid ho; have HG2 := Lib.hid hg'; have HB2 := Lib.hid hb; clear ho hg hg' hb hk2)
            obtain ⟨F3, hF3, hp3, ht3⟩ := (HP.out.fb ((FB.refl w1).alloc (.cells #[.int .i64 k] 3))).longer k O2 oc2 (by rw [List.length_map, List.map_append]; exact HO2.out) HG2.out (by have := HB2.out; rw [List.length_map]; exact this)
            rw [List.length_map] at hp3 ht3
            generalize w2.setCell ⟨g, 2, none⟩ (.slice O2 (D.M.length + 1) oc2) = w3 at *
            have HP3 := Lib.hid hp3
            have HT3 := Lib.hid ((TS.of (F := F) ((FB.refl w1).alloc (.cells #[.int .i64 k] 3))).then ht3)
            have HF3 := Lib.hid (show ∀ x ∈ F3, x ∈ F ∨ w1.heap.size ≤ x from fun x hx => (hF3 x hx).imp id (fun h => by simp at h; omega))
            have HR3 := Lib.hid (HT3.out.rd HR1.out hAF)
            have HK3 := Lib.hid (show DskC w3 F3 g n gb c gm O2 oc2 L V { D with fuse := fz } ((cput D.M k xs).map (·.1)) from by rw [cput_none HC.out]; exact hp3)
            have HOK3 := Lib.hid (HD1.out.ok)
            clear hF3 hp3 ht3 HG2 HO2 HB2 HORD HML HP p0 p1 p2 p3 s0 s1 s2 s3 sf q1
            obtain ⟨W3, hW3⟩ : ∃ W3 : World, W3 = w3 := ⟨_, rfl⟩
            subst hW3
            refine region_sch (E := TB (gm)) (((0, true) :: (1, true) :: (2, true) :: (3, true) :: (4, true) :: (5, true) :: (6, false) :: (7, false) :: [])) (by kernel_rfl) (TB.refl _) (fun _ _ _ h k => TB.trans h k) (fun _ _ d _ _ h => by cases d <;> exact h) (by kernel_rfl) ?_
            intro ops hops0
            have hops := Lib.hid hops0
            clear hops0
            have HF : TB (gm) W3 W3.drew := TB.of (FB.refl _).drew
            have HD : FB W3 W3.drew := (FB.refl _).drew
            generalize W3.drew = wF3 at *
            have HP4 := Lib.hid (HK3.out.fb HD)
            have HR4 := Lib.hid (HD.rd HR3.out)
            repeat (refine sch_take (o := ?_) (v := ?_) (a' := ?_) (at_of hops.out ?_) ?_ (fun W hW => ?_) ?_ ?_; rotate_left 3; (focus (simp only [List.getElem?_toArray, List.getElem?_cons_zero, List.getElem?_cons_succ]; rfl)); (focus (rw [hops.out]; rfl)); (focus (obtain ⟨u0, u1, u2, u3⟩ := row4 ((hW.out.block g (Array.getElem?_eq_some_iff.1 HP4.out.row).1 (fun e => HNE.out (by cases e; rfl))).trans HP4.out.row); go_simp; with_reducible rfl)); (focus (simp only [Act.put, List.setIfInBounds_toArray, List.set_cons_zero, List.set_cons_succ]; rfl)))
            (refine sch_call (o := ?_) (f := ?_) (args := ?_) (at_of hops.out ?_) ?_ ?_ ?_; rotate_left 3; (focus (simp only [List.getElem?_toArray, List.getElem?_cons_zero, List.getElem?_cons_succ]; rfl)); (focus (rw [hops.out]; rfl)); (focus (go_simp; constructor <;> with_reducible rfl)); (first | ((with_reducible refine (sl_Clone xs A 512 ca _ HXL.out.symm (by rw [HXL.out]; omega) HR4.out).mono ?_); rintro e w' ⟨A5, c5, rfl, ho, hb⟩; have HO5 := Lib.hid (Own.info ho); have HB5 := Lib.hid (show FB wF3 w' from hb); clear ho; refine ⟨_, rfl, TB.of hb, ?_⟩; intro a' ha'; simp only [Act.put, List.setIfInBounds_toArray, List.set_cons_zero, List.set_cons_succ] at ha'; subst ha'; replace HF := HF.fb hb; clear hb)))
            have hp5 := HP4.out.fb HB5.out
            obtain ⟨w6, hrun, hmap, htb⟩ := map_update Try.underlying97 Try.underlying3 hp5.map k (.slice A5 512 c5)
            (refine sch_mapUpdate (o := ?_) (at_of hops.out ?_) ?_ 97 (.tmp 51) (.tmp 52) (.tmp 54) ?_ _ _ _ ?_ ?_ ?_ hrun htb ?_; rotate_left 1; (focus (simp only [List.getElem?_toArray, List.getElem?_cons_zero, List.getElem?_cons_succ]; rfl)); (focus (rw [hops.out]; rfl)); (focus rfl); (focus rfl); (focus rfl); (focus rfl))
            refine sch_done ?_
            have h5x := HO5.out
            rw [← HXL.out] at hmap
            obtain ⟨F6, h6a, h6b, h6c⟩ := hp5.stored k (x := xs) (A := A5) (ca := c5) h5x.2.2.1 h5x.1 h5x.2.1 (fun ad ha => ⟨(h5x.2.2.2.2 ad ha).2, fun hm => by have := HK3.out.lt _ hm; have := HD.le; have := (h5x.2.2.2.2 ad ha).1; omega⟩) hmap htb
            have HW6 := Lib.hid (h6b.whole (HOK3.out.put hk0 hkn HXL.out))
            have HT6 := Lib.hid ((HT1.out.then (HT3.out.then (TS.of (HD.trans HB5.out)))).trans h6c (fun x hx => (HF3.out x hx).imp id (fun h => Nat.le_trans HT1.out.size h)))
            have HF6 := Lib.hid (show ∀ x ∈ F6, x ∈ F ∨ w.heap.size ≤ x from fun x hx => by
              rcases h6a x hx with hx | hx
              · exact (HF3.out x hx).imp id (fun h => Nat.le_trans HT1.out.size h)
              · right
                cases A5 with
                | none => cases hx
                | some ad =>
                  simp only [optBlk, Option.toList_some, List.map_cons, List.map_nil, List.mem_singleton] at hx
                  subst hx
                  have h1 := (h5x.2.2.2.2 ad rfl).1
                  have h2 := HD.le
                  have h3 := HT3.out.size
                  have h4 := HT1.out.size
                  omega)
            clear hops hrun hmap htb h6a h6b h6c h5x hp5
            go_wp2
            go_ret
            exact ⟨rfl, F6, HF6.out, HW6.out, HT6.out⟩
          · have hl1 := hl true
            rw [if_pos rfl] at hl1
            have HC := Lib.hid (show cget D.M k = some x2 from hc)
            clear hc hl
            obtain ⟨gb, c, gm', O, oc, L, V, hp⟩ := HD1.out.parts
            obtain ⟨p0, p1, p2, p3⟩ := row4 hp.row
            obtain rfl : gm = gm' := by rw [q1] at p1; cases p1; rfl
            have HNE := Lib.hid (show g ≠ gm from fun e => by have := hp.nodup; simp [dctl, e] at this)
            obtain ⟨w3, hw3⟩ : ∃ w3 : World, w3 = w1 := ⟨_, rfl⟩
            have HT3 := Lib.hid (show TS F w1 w3 from by rw [hw3]; exact TS.refl _ _)
            obtain ⟨F3, hF3⟩ : ∃ F3 : List Nat, F3 = F := ⟨_, rfl⟩
            have HF3 := Lib.hid (show ∀ x ∈ F3, x ∈ F ∨ w1.heap.size ≤ x from fun x hx => .inl (hF3 ▸ hx))
            have HK3 := Lib.hid (show DskC w1 F3 g n gb c gm O oc L V { D with fuse := fz } ((cput D.M k xs).map (·.1)) from by rw [cput_some HC.out, hF3]; exact hp)
            have HR3 := Lib.hid HR1.out
            have HOK3 := Lib.hid (HD1.out.ok)
            clear hp
            go_wp2_with fail
            clear p0 p1 p2 p3 q1 hF3
            rw [← hw3] at HK3 HR3 ⊢
            clear hw3
            obtain ⟨W3, hW3⟩ : ∃ W3 : World, W3 = w3 := ⟨_, rfl⟩
            subst hW3
            refine region_sch (E := TB (gm)) (((0, true) :: (1, true) :: (2, true) :: (3, true) :: (4, true) :: (5, true) :: (6, false) :: (7, false) :: [])) (by kernel_rfl) (TB.refl _) (fun _ _ _ h k => TB.trans h k) (fun _ _ d _ _ h => by cases d <;> exact h) (by kernel_rfl) ?_
            intro ops hops0
            have hops := Lib.hid hops0
            clear hops0
            have HF : TB (gm) W3 W3.drew := TB.of (FB.refl _).drew
            have HD : FB W3 W3.drew := (FB.refl _).drew
            generalize W3.drew = wF3 at *
            have HP4 := Lib.hid (HK3.out.fb HD)
            have HR4 := Lib.hid (HD.rd HR3.out)
            repeat (refine sch_take (o := ?_) (v := ?_) (a' := ?_) (at_of hops.out ?_) ?_ (fun W hW => ?_) ?_ ?_; rotate_left 3; (focus (simp only [List.getElem?_toArray, List.getElem?_cons_zero, List.getElem?_cons_succ]; rfl)); (focus (rw [hops.out]; rfl)); (focus (obtain ⟨u0, u1, u2, u3⟩ := row4 ((hW.out.block g (Array.getElem?_eq_some_iff.1 HP4.out.row).1 (fun e => HNE.out (by cases e; rfl))).trans HP4.out.row); go_simp; with_reducible rfl)); (focus (simp only [Act.put, List.setIfInBounds_toArray, List.set_cons_zero, List.set_cons_succ]; rfl)))
            (refine sch_call (o := ?_) (f := ?_) (args := ?_) (at_of hops.out ?_) ?_ ?_ ?_; rotate_left 3; (focus (simp only [List.getElem?_toArray, List.getElem?_cons_zero, List.getElem?_cons_succ]; rfl)); (focus (rw [hops.out]; rfl)); (focus (go_simp; constructor <;> with_reducible rfl)); (first | ((with_reducible refine (sl_Clone xs A 512 ca _ HXL.out.symm (by rw [HXL.out]; omega) HR4.out).mono ?_); rintro e w' ⟨A5, c5, rfl, ho, hb⟩; have HO5 := Lib.hid (Own.info ho); have HB5 := Lib.hid (show FB wF3 w' from hb); clear ho; refine ⟨_, rfl, TB.of hb, ?_⟩; intro a' ha'; simp only [Act.put, List.setIfInBounds_toArray, List.set_cons_zero, List.set_cons_succ] at ha'; subst ha'; replace HF := HF.fb hb; clear hb)))
            have hp5 := HP4.out.fb HB5.out
            obtain ⟨w6, hrun, hmap, htb⟩ := map_update Try.underlying97 Try.underlying3 hp5.map k (.slice A5 512 c5)
            (refine sch_mapUpdate (o := ?_) (at_of hops.out ?_) ?_ 97 (.tmp 51) (.tmp 52) (.tmp 54) ?_ _ _ _ ?_ ?_ ?_ hrun htb ?_; rotate_left 1; (focus (simp only [List.getElem?_toArray, List.getElem?_cons_zero, List.getElem?_cons_succ]; rfl)); (focus (rw [hops.out]; rfl)); (focus rfl); (focus rfl); (focus rfl); (focus rfl))
            refine sch_done ?_
            have h5x := HO5.out
            rw [← HXL.out] at hmap
            obtain ⟨F6, h6a, h6b, h6c⟩ := hp5.stored k (x := xs) (A := A5) (ca := c5) h5x.2.2.1 h5x.1 h5x.2.1 (fun ad ha => ⟨(h5x.2.2.2.2 ad ha).2, fun hm => by have := HK3.out.lt _ hm; have := HD.le; have := (h5x.2.2.2.2 ad ha).1; omega⟩) hmap htb
            have HW6 := Lib.hid (h6b.whole (HOK3.out.put hk0 hkn HXL.out))
            have HT6 := Lib.hid ((HT1.out.then (HT3.out.then (TS.of (HD.trans HB5.out)))).trans h6c (fun x hx => (HF3.out x hx).imp id (fun h => Nat.le_trans HT1.out.size h)))
            have HF6 := Lib.hid (show ∀ x ∈ F6, x ∈ F ∨ w.heap.size ≤ x from fun x hx => by
              rcases h6a x hx with hx | hx
              · exact (HF3.out x hx).imp id (fun h => Nat.le_trans HT1.out.size h)
              · right
                cases A5 with
                | none => cases hx
                | some ad =>
                  simp only [optBlk, Option.toList_some, List.map_cons, List.map_nil, List.mem_singleton] at hx
                  subst hx
                  have h1 := (h5x.2.2.2.2 ad rfl).1
                  have h2 := HD.le
                  have h3 := HT3.out.size
                  have h4 := HT1.out.size
                  omega)
            clear hops hrun hmap htb h6a h6b h6c h5x hp5
            go_wp2
            go_ret
            exact ⟨rfl, F6, HF6.out, HW6.out, HT6.out⟩
      · rw [if_pos (.inr (.inr hlen))]
        have hne : ((xs.length : Int) != 512) = true := by simp; omega
        clear h hr hlen
        go_enter Try.func70, Try.ntmps70
        go_wp2_with fail
        refine (dsk_made H.out).mono ?_
        rintro e w1 ⟨rfl, rfl⟩
        go_wp2_with fail
        refine (dsk_Sectors H.out).mono ?_
        rintro e w1 ⟨rfl, rfl⟩
        go_wp2
        go_ret
        exact ⟨rfl, F, fun x hx => .inl hx, H.out, TS.refl _ _⟩
end Go.Proofs.Ytihljjfnjclefaa
/- A disk: the walks through Of, New, Image, Cached. -/
set_option linter.unusedVariables false
set_option linter.unusedSimpArgs false
namespace Go.Proofs.Ytihljjfnjclefaa
open Go.ChangeShapes Go.WideShapes Go.ChangeAt Go.RowKit Go.MapKept

theorem Own.head0 {w : World} {base n : Nat} {A : Option Addr} {c : Nat} {xs : List Byte} (h : Own w base (.slice A n c) xs) (hn : 0 < n) : ∃ g, A = some ⟨g, 0, none⟩ ∧ base ≤ g ∧ g < w.heap.size := by
  rcases h.2 with ⟨h', h0⟩ | ⟨g, cap, cur, h', hb, hg, _⟩
  · simp at h'; omega
  · simp only [Value.slice.injEq] at h'
    exact ⟨g, h'.1, hb, (Array.getElem?_eq_some_iff.1 hg).1⟩
/-- A new disk. -/
theorem Dsk.new {w w1 : World} {n gb c : Nat} {xs : List Byte} (hF : FB w w1) (ho : Own w1 w.heap.size (.slice (some ⟨gb, 0, none⟩) (512 * n) c) xs) (hl : xs.length = 512 * n) (h1 : 1 ≤ n) (h2 : n ≤ 32768) :
    Dsk ((w1.alloc (.map #[] 0)).alloc (.cells #[.slice (some ⟨gb, 0, none⟩) (512 * n) c, .map (some w1.heap.size), .slice none 0 0, .pointer none] 100)) [w1.heap.size + 1, gb, w1.heap.size] (w1.heap.size + 1) n ⟨xs, [], none⟩ := by
  have hgb := OwnV.base ho gb rfl
  have hle := hF.le
  have hsz : (w1.alloc (.map #[] 0)).heap.size = w1.heap.size + 1 := by simp
  refine ⟨gb, c, w1.heap.size, none, 0, none, [], ?_, ?_, ?_, .nil, OwnV.nil _ _ _, trivial, ?_, ?_, ⟨hl, h1, h2, by simp, by simp⟩, ?_⟩
  · rw [← hsz]; exact heap_alloc_new _ _
  · exact (((ho.alloc _).alloc _).lower (Nat.zero_le _))
  · exact (MapAt.new w1).ts (TS.of (F := []) ((FB.refl _).alloc _)) (by simp)
  · simp [optBlk]; omega
  · simp [optBlk]
  · intro x hx
    simp at hx ⊢
    omega
set_option maxRecDepth 100000 in
set_option maxHeartbeats 1000000 in
theorem dsk_Of_ok (n : Nat) (h1 : 1 ≤ n) (h2 : n ≤ 32768) (A : Option Addr) (m ca : Nat) (xs : List Byte) (w : World) (hm : m = 512 * n) (hl : xs.length = 512 * n) (hr : Rd w A xs) :
    Calls Try.prog 46 #[.slice A m ca] w fun e w' => ∃ F g, e = .returned (.tuple #[.pointer (some ⟨g, 0, none⟩), .int .i64 0]) ∧ Dsk w' F g n ⟨xs, [], none⟩ ∧ FB w w' ∧ (∀ x ∈ F, w.heap.size ≤ x) := by
  subst hm
  have HR := Lib.hid hr
  have HL := Lib.hid hl
  have hmk := @run_makeMap Try.prog
  have hq2 : (512 * (n : Int)).tdiv 512 = (n : Int) := by rw [Int.tdiv_eq_ediv_of_nonneg (by omega)]; omega
  have hq3 : (512 * (n : Int)).tmod 512 = 0 := by rw [Int.tmod_eq_emod_of_nonneg (by omega)]; omega
  have hn1 : (n : Int) ≤ 32768 := by omega
  have hn2 : (1 : Int) ≤ (n : Int) := by omega
  clear hr hl
  go_enter Try.func46, Try.ntmps46
  go_wp2_with fail
  refine (sl_Clone xs A (512 * n) ca _ HL.out.symm (by rw [HL.out]; omega) HR.out).mono ?_
  rintro e w1 ⟨A1, c1, rfl, ho, hb⟩
  obtain ⟨gb, rfl, -, -⟩ := Own.head0 ho (by omega)
  have HF := Lib.hid (show FB w w1 from hb)
  have HD := Lib.hid (Dsk.new hb ho HL.out h1 h2)
  have HG := Lib.hid (show w.heap.size ≤ gb from (OwnV.base ho gb rfl).1)
  clear ho hb
  go_wp2
  go_ret2
  refine ⟨_, _, ?_, HD.out, (HF.out.alloc _).alloc _, ?_⟩
  · first | rfl | simp
  · intro x hx
    have := HF.out.le
    have := HG.out
    simp at hx
    omega
set_option maxRecDepth 100000 in
set_option maxHeartbeats 1000000 in
theorem dsk_Of_bad (A : Option Addr) (m ca : Nat) (w : World) (hmm : m ≤ 9223372036854775807) (hm : m / 512 < 1 ∨ 32768 < m / 512 ∨ m % 512 ≠ 0) :
    Calls Try.prog 46 #[.slice A m ca] w fun e w' => e = .returned (.tuple #[.pointer none, .int .i64 2]) ∧ w = w' := by
  have hq2 : (m : Int).tdiv 512 = ((m / 512 : Nat) : Int) := by rw [Int.tdiv_eq_ediv_of_nonneg (by omega)]; omega
  have hq3 : (m : Int).tmod 512 = ((m % 512 : Nat) : Int) := by rw [Int.tmod_eq_emod_of_nonneg (by omega)]; omega
  have hcase : ((m / 512 : Nat) : Int) < 1 ∨ (¬ ((m / 512 : Nat) : Int) < 1 ∧ 32768 < ((m / 512 : Nat) : Int)) ∨ (¬ ((m / 512 : Nat) : Int) < 1 ∧ ¬ 32768 < ((m / 512 : Nat) : Int) ∧ (((m % 512 : Nat) : Int) != 0) = true) := by
    rcases Nat.lt_or_ge (m / 512) 1 with h | h
    · exact .inl (by omega)
    · rcases Nat.lt_or_ge 32768 (m / 512) with h' | h'
      · exact .inr (.inl ⟨by omega, by omega⟩)
      · exact .inr (.inr ⟨by omega, by omega, by simp; omega⟩)
  have hdq : 0 ≤ ((m / 512 : Nat) : Int) := by omega
  have hdq1 : ((m / 512 : Nat) : Int) ≤ 9223372036854775807 := by omega
  have hwq : wrap64 ((m / 512 : Nat) : Int) = ((m / 512 : Nat) : Int) := by have := IntKind.wrap_i64 ((m / 512 : Nat) : Int); unfold wrap64; omega
  clear hm hmm
  generalize ((m / 512 : Nat) : Int) = dq at *
  generalize ((m % 512 : Nat) : Int) = dm at *
  rcases hcase with h | ⟨h, h'⟩ | ⟨h, h', h''⟩
  all_goals
    go_enter Try.func46, Try.ntmps46
    go_wp2
    go_ret2
    exact ⟨rfl, rfl⟩
set_option maxRecDepth 100000 in
set_option maxHeartbeats 1000000 in
theorem dsk_New_ok (n : Nat) (h1 : 1 ≤ n) (h2 : n ≤ 32768) (w : World) :
    Calls Try.prog 12 #[.int .i64 (n : Int)] w fun e w' => ∃ F g, e = .returned (.tuple #[.pointer (some ⟨g, 0, none⟩), .int .i64 0]) ∧ Dsk w' F g n ⟨List.replicate (512 * n) 0#8, [], none⟩ ∧ FB w w' ∧ (∀ x ∈ F, w.heap.size ≤ x) := by
  obtain ⟨C, hmk, hC⟩ := mk_bytes ((n : Int) * 512) (512 * n) (by omega) (by omega)
  have HC := Lib.hid hC
  have hw1 : IntKind.i64.wrap ((n : Int) * 512) = (n : Int) * 512 := by rw [IntKind.wrap_i64]; omega
  clear hC
  go_enter Try.func12, Try.ntmps12
  go_wp2_with fail
  refine (dsk_Of_ok n h1 h2 _ (512 * n) _ (List.replicate (512 * n) 0#8) _ rfl (by simp) (rd_mk HC.out _ _ rfl)).mono ?_
  rintro e w1 ⟨F, g, rfl, hd, hf, hg⟩
  have HD := Lib.hid hd
  have HF := Lib.hid (((FB.refl w).alloc _).trans hf)
  have HG := Lib.hid (show ∀ x ∈ F, w.heap.size ≤ x from fun x hx => by have := hg x hx; simp at this; omega)
  clear hd hf hg
  go_wp2
  go_ret2
  exact ⟨F, g, rfl, HD.out, HF.out, HG.out⟩
set_option maxRecDepth 100000 in
set_option maxHeartbeats 1000000 in
theorem dsk_New_bad (z : Int) (h : z < 1 ∨ 32768 < z) (w : World) :
    Calls Try.prog 12 #[.int .i64 z] w fun e w' => e = .returned (.tuple #[.pointer none, .int .i64 2]) ∧ w = w' := by
  have hcase : z < 1 ∨ (¬ z < 1 ∧ 32768 < z) := by omega
  clear h
  rcases hcase with h | ⟨h, h'⟩
  all_goals
    go_enter Try.func12, Try.ntmps12
    go_wp2
    go_ret2
    exact ⟨rfl, rfl⟩
set_option maxRecDepth 100000 in
set_option maxHeartbeats 1000000 in
theorem dsk_Image {w : World} {F : List Nat} {g n : Nat} {D : DiskSt} (h : Dsk w F g n D) :
    Calls Try.prog 36 #[.pointer (some ⟨g, 0, none⟩)] w fun e w' => ∃ A c, e = .returned (.slice A (512 * n) c) ∧ Rd w' A D.b ∧ 512 * n ≤ c ∧ c ≤ maxLen ∧ (∀ ad, A = some ad → w.heap.size ≤ ad.block) ∧ FB w w' := by
  have H := Lib.hid h
  have hok := h.ok
  have hn2 := hok.n2
  have HL := Lib.hid hok.len
  obtain ⟨gb, c, q0, ho, -⟩ := h.bytes
  have HR := Lib.hid (Own.info ho).2.2.1
  clear h ho hok
  go_enter Try.func36, Try.ntmps36
  go_wp2_with fail
  refine (dsk_made H.out).mono ?_
  rintro e w1 ⟨rfl, rfl⟩
  go_wp2_with fail
  refine (sl_Clone D.b _ (512 * n) c _ HL.out.symm (by rw [HL.out]; omega) HR.out).mono ?_
  rintro e w1 ⟨A1, c1, rfl, ho, hb⟩
  have HO := Lib.hid (Own.info ho)
  have HF := Lib.hid (show FB w w1 from hb)
  clear ho hb
  go_wp2
  go_ret
  exact ⟨A1, c1, rfl, HO.out.2.2.1, by rw [← HL.out]; exact HO.out.1, HO.out.2.1, fun ad ha => (HO.out.2.2.2.2 ad ha).1, HF.out⟩
end Go.Proofs.Ytihljjfnjclefaa
/- A disk: bytes copied into a sector. -/
set_option linter.unusedVariables false
set_option linter.unusedSimpArgs false
namespace Go.Proofs.Ytihljjfnjclefaa
open Go.ChangeShapes Go.WideShapes Go.ChangeAt Go.RowKit Go.MapKept

theorem splice_len {b xs : List Byte} {off : Nat} (h : off + xs.length ≤ b.length) : (splice b off xs).length = b.length := length_splice b off xs h
theorem splice_take {α : Type} (L cs : List α) (off n : Nat) (h : off + cs.length ≤ n) (hL : off ≤ L.length) : (L.take off ++ cs ++ L.drop (off + cs.length)).take n = (L.take n).take off ++ (cs ++ (L.take n).drop (off + cs.length)) := by
  have h1 : (L.take off).length = off := by rw [List.length_take]; omega
  rw [List.append_assoc, List.take_append, List.take_append, h1, List.take_of_length_le (by omega : (L.take off).length ≤ n), List.take_of_length_le (by omega : cs.length ≤ n - off), List.take_take, Nat.min_eq_left (by omega), List.drop_take]
  congr 3
  omega
theorem vbs_splice (b xs : List Byte) (off : Nat) : vbs (splice b off xs) = (vbs b).take off ++ (vbs xs ++ (vbs b).drop (off + xs.length)) := by
  unfold splice
  rw [vbs_append, vbs_append, vbs_take, vbs_drop]
theorem TB.row (g : Nat) (w : World) (cs : Array Value) : TB g w (w.setRow g cs) := ⟨rfl, rfl, rfl, by simp, fun k _ hk => setRow_other w g k cs (fun e => hk (by simp [e]))⟩
theorem run_copy_sec {w : World} {base gb m c : Nat} {b : List Byte} (ho : Own w base (.slice (some ⟨gb, 0, none⟩) m c) b) (off d e : Nat) (A : Option Addr) (ca : Nat) (xs : List Byte) (hr : Rd w A xs) (hx : xs.length ≤ d) (hfit : off + xs.length ≤ b.length) :
    ∃ w', (∀ ty, (Builtin.copy_ #[22, 22] ty #[.slice (some ⟨gb, off, none⟩) d e, .slice A xs.length ca]).run Try.prog w = .ok (goInt xs.length) w') ∧ Own w' base (.slice (some ⟨gb, 0, none⟩) m c) (splice b off xs) ∧ TB gb w w' := by
  obtain ⟨i, hi, _, hsz, _⟩ := info_parts info_u8
  have hsz1 : (Try.prog.info? 5).map (·.size) = some 1 := by rw [hi]; simp [hsz]
  by_cases h0 : xs.length = 0
  · obtain rfl : xs = [] := List.eq_nil_of_length_eq_zero h0
    refine ⟨w, fun ty => run_copy_none (P := Try.prog) w _ _ ty _ _ _ _ _ _ _ Try.underlying22 hsz1 (by simp), ?_, TB.refl _ _⟩
    have : splice b off [] = b := by simp [splice]
    rw [this]; exact ho
  · obtain ⟨b0, o0, rfl, hb0, hcell⟩ := hr.form (by omega)
    have hO := ho
    unfold Own OwnV at ho
    rcases ho with ⟨l1, ⟨l2, -⟩ | ⟨g, cap, cur, l3, l4, l5, l6, l7, l8, l9⟩⟩
    · cases l2
    · simp only [Value.slice.injEq, Option.some.injEq, Addr.mk.injEq] at l3
      obtain ⟨⟨rfl, -, -⟩, hm, rfl⟩ := l3
      rw [vbs_length] at l1 l6 l9 hm
      rw [Nat.mul_one] at l1 l8 l9
      have hcl : b.length ≤ cur.size := by omega
      have hrun := fun ty => run_copy_row (P := Try.prog) w 22 22 ty 5 gb off d e ⟨b0, o0, none⟩ xs.length ca cur 5 (vbs xs) Try.underlying22 hsz1 l5 (by rw [vbs_length]; exact (Nat.min_eq_left hx).symm) (fun j v hj => by
        have hjl : j < xs.length := by
          have := (List.getElem?_eq_some_iff.1 hj).1
          rwa [vbs_length] at this
        have : (⟨b0, o0, none⟩ : Addr).add j = ⟨b0, o0 + j, none⟩ := by unfold Addr.add; split <;> simp_all
        rw [this, hcell j hjl]
        rw [vbs_get? xs j hjl] at hj
        exact hj) (by rw [vbs_length]; omega) (vbs_oneCell xs)
      simp only [vbs_length] at hrun
      refine ⟨_, hrun, ?_, TB.row _ _ _⟩
      have hrow := setRow_heap w gb cur (cur.toList.take off ++ vbs xs ++ cur.toList.drop (off + xs.length)).toArray _ _ l5
      unfold Own OwnV
      rw [vbs_length, splice_len hfit]
      refine ⟨by rw [vbs_length, splice_len hfit]; omega, .inr ⟨gb, c, _, by rw [hm], l4, hrow, by omega, l7, ?_, ?_⟩⟩
      · simp only [List.size_toArray, List.length_append, List.length_take, List.length_drop, vbs_length, Array.length_toList]
        omega
      · have hst := splice_take cur.toList (vbs xs) off b.length (by rw [vbs_length]; exact hfit) (by rw [Array.length_toList]; omega)
        rw [vbs_length] at hst
        rw [Nat.mul_one]
        rw [hst, l9, vbs_splice]
/-- Bytes copied into the disk's. -/
theorem DskC.copied {w w' : World} {F : List Nat} {g n gb c gm : Nat} {O : Option Addr} {oc : Nat} {L : Option Nat} {V : List (Int × Value)} {D : DiskSt} {ord : List Int} (h : DskC w F g n gb c gm O oc L V D ord) (b : List Byte) (ho : Own w' 0 (.slice (some ⟨gb, 0, none⟩) (512 * n) c) b) (htb : TB gb w w') :
    DskC w' F g n gb c gm O oc L V { D with b := b } ord ∧ TS F w w' := by
  have hts : TS [gb] w w' := TS.tb htb (by simp)
  have hnd := h.nodup
  unfold dctl at hnd
  have hne : ∀ y ∈ [g, gm] ++ (optBlk O ++ L.toList), y ∉ [gb] := by
    intro y hy hm
    simp only [List.mem_singleton] at hm
    subst hm
    simp only [List.cons_append, List.nil_append, List.nodup_cons, List.mem_cons, List.mem_append, not_or] at hnd hy
    obtain ⟨⟨a1, a2, a3, a4⟩, ⟨b1, b2, b3⟩, ⟨c1, c2⟩, d⟩ := hnd
    rcases hy with rfl | rfl | hy | hy
    · exact a1 rfl
    · exact b1 rfl
    · exact b2 hy
    · exact b3 hy
  refine ⟨⟨?_, ho, h.map.ts hts (hne gm (by simp)), ?_, ?_, ?_, h.nodup, h.mem, fun x hx => Nat.lt_of_lt_of_le (h.lt x hx) hts.size⟩, TS.tb htb (h.mem gb (by simp [dctl]))⟩
  · rw [hts.block g (Array.getElem?_eq_some_iff.1 h.row).1 (hne g (by simp))]; exact h.row
  · exact h.vals.move (fun A x hr hb => hts.rd hr (fun ad ha hf => (hb ad ha).2 (by simp at hf; simp [dctl, hf]))) (fun b hb hb' => ⟨hb, hb'⟩)
  · exact hts.ownV h.order (fun b hb => by
      cases O with
      | none => cases hb
      | some ad => cases hb; exact hne _ (by simp [optBlk]))
  · have h6 := h.fuse
    unfold FuseAt at *
    simp only
    revert h6
    generalize D.fuse = fz
    intro h6
    cases L with
    | none => cases fz with
      | none => trivial
      | some z => exact h6
    | some l => cases fz with
      | none => exact h6
      | some z =>
        simp only at h6 ⊢
        rw [hts.block l (Array.getElem?_eq_some_iff.1 h6).1 (hne l (by simp))]; exact h6
end Go.Proofs.Ytihljjfnjclefaa
