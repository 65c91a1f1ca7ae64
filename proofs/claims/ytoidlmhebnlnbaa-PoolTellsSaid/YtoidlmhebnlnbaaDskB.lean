/- A disk: the walks through sector, Read. -/
import Derived.Test.YtoidlmhebnlnbaaDskA
set_option linter.unusedVariables false
set_option linter.unusedSimpArgs false
namespace Go.Proofs.Ytoidlmhebnlnbaa
open Go.ChangeShapes Go.WideShapes Go.ChangeAt Go.RowKit Go.MapKept

/-- x[k:k+n]. -/
theorem cut_at (A : Option Addr) (c : Nat) (xs : List Byte) (k n : Nat) (hk : k + n ≤ xs.length) (hc : xs.length ≤ c) :
    ∃ A', (∀ W, (Instr.slice 29 (.slice A xs.length c) (some (.int .i64 (k : Int))) (some (.int .i64 ((k : Int) + (n : Int)))) none).run Try.prog W = .ok (.slice A' n (c - k)) W) ∧ (∀ w, Rd w A xs → Rd w A' ((xs.drop k).take n)) ∧ (c ≠ k → A' = A.map (·.add k)) := by
  obtain ⟨i, hi, _, hsz, _⟩ := info_parts info_u8
  refine ⟨if c = k then A else A.map (·.add k), fun W => ?_, fun w h => ?_, fun h => if_neg h⟩
  · have hel : Try.prog.elem 29 = 5 := by simp [Program.elem, Try.underlying29]
    have hu : Try.prog.underlying 29 = some (.slice (Try.prog.elem 29)) := by rw [hel]; exact Try.underlying29
    rw [run_slice_lh W 29 A xs.length c hu .i64 .i64 (k : Int) ((k : Int) + (n : Int)) (Int.natCast_nonneg _) (by omega) (by omega), hel]
    simp [sizeOf, typeInfo, hi, hsz, sliced, Result.andThen]
    omega
  · by_cases hck : c = k
    · have : n = 0 := by omega
      subst this
      rw [List.take_zero]; exact Rd.nil _ _
    · rw [if_neg hck]
      apply Rd.take
      intro j hj
      simp only [vbs_length, List.length_drop] at hj
      obtain ⟨b, o, rfl, hb, hcell⟩ := h.form (by omega)
      refine ⟨b, o + k, ?_, ?_⟩
      · have : (⟨b, o, none⟩ : Addr).add k = ⟨b, o + k, none⟩ := by unfold Addr.add; split <;> simp_all
        simp [this]
      · have := hcell (k + j) (by omega)
        rw [Nat.add_assoc, this]
        simp [vbs]
/-- A sector's bytes. -/
def sec (b : List Byte) (k : Nat) : List Byte := (b.drop (512 * k)).take 512
theorem sec_len {b : List Byte} {n k : Nat} (h : b.length = 512 * n) (hk : k < n) : (sec b k).length = 512 := by
  unfold sec; rw [List.length_take, List.length_drop, h]; omega
/-- The bytes' block, and what it holds. -/
theorem Dsk.bytes {w : World} {F : List Nat} {g n : Nat} {D : DiskSt} (h : Dsk w F g n D) : ∃ gb c, w.cell? ⟨g, 0, none⟩ = some (.slice (some ⟨gb, 0, none⟩) (512 * n) c) ∧ Own w 0 (.slice (some ⟨gb, 0, none⟩) (512 * n) c) D.b ∧ gb ∈ F := by
  obtain ⟨gb, c, gm, O, oc, L, V, h1, h2, h3, h4, h5, h6, h7, h8, h9, h10⟩ := h
  exact ⟨gb, c, (row4 h1).1, h2, h8 gb (by simp)⟩
set_option maxRecDepth 100000 in
set_option maxHeartbeats 1000000 in
theorem dsk_sector {w : World} {F : List Nat} {g n : Nat} {D : DiskSt} (h : Dsk w F g n D) (k : Nat) (hk : k < n) :
    Calls Try.prog 41 #[.pointer (some ⟨g, 0, none⟩), .int .i64 (k : Int)] w fun e w' => ∃ gb c, e = .returned (.slice (some ⟨gb, 512 * k, none⟩) 512 c) ∧ 512 ≤ c ∧ c ≤ maxLen ∧ Rd w (some ⟨gb, 512 * k, none⟩) (sec D.b k) ∧ w.cell? ⟨g, 0, none⟩ = some (.slice (some ⟨gb, 0, none⟩) (512 * n) (c + 512 * k)) ∧ w = w' := by
  obtain ⟨gb, c, q0, ho, -⟩ := h.bytes
  obtain ⟨i1, i2, i3, i4, -⟩ := Own.info ho
  have hok := h.ok
  have hn2 := hok.n2
  have hlen := hok.len
  obtain ⟨A', hcut, hcr, hA⟩ := cut_at (some ⟨gb, 0, none⟩) c D.b (512 * k) 512 (by omega) i1
  have hadd : (⟨gb, 0, none⟩ : Addr).add (512 * k) = ⟨gb, 512 * k, none⟩ := by
    unfold Addr.add; split
    · rename_i h; rw [h]
    · simp
  rw [hA (by omega)] at hcut hcr
  simp only [Option.map_some, hadd] at hcut hcr
  rw [hlen] at hcut
  have HCR := Lib.hid (hcr w i3)
  have HC := Lib.hid (show 512 ≤ c - 512 * k ∧ c - 512 * k ≤ maxLen ∧ (c - 512 * k) + 512 * k = c from ⟨by omega, by omega, by omega⟩)
  have hcut2 : ∀ W, (Instr.slice 29 (.slice (some ⟨gb, 0, none⟩) (512 * n) c) (some (.int .i64 ((k : Int) * 512))) (some (.int .i64 (((k : Int) + 1) * 512))) none).run Try.prog W = .ok (.slice (some ⟨gb, 512 * k, none⟩) 512 (c - 512 * k)) W := fun W => by
    have := hcut W
    rw [show ((512 * k : Nat) : Int) = (k : Int) * 512 by omega, show (k : Int) * 512 + ((512 : Nat) : Int) = ((k : Int) + 1) * 512 by omega] at this
    exact this
  have hw1 : IntKind.i64.wrap ((k : Int) * 512) = (k : Int) * 512 := by rw [IntKind.wrap_i64]; omega
  have hw2 : IntKind.i64.wrap ((k : Int) + 1) = (k : Int) + 1 := by rw [IntKind.wrap_i64]; omega
  have hw3 : IntKind.i64.wrap (((k : Int) + 1) * 512) = ((k : Int) + 1) * 512 := by rw [IntKind.wrap_i64]; omega
  have HQ := Lib.hid q0
  clear h ho i1 i2 i3 i4 hcut hcr hA hok
  go_enter Try.func41, Try.ntmps41
  go_wp2
  go_ret
  exact ⟨gb, c - 512 * k, rfl, HC.out.1, HC.out.2.1, HCR.out, by rw [HC.out.2.2]; exact HQ.out, rfl⟩
theorem zeroB (w : World) : (zeroValue 29).run Try.prog w = .ok (.slice none 0 0) w := by kernel_rfl
/-- A sector looked for in the cache. -/
theorem Dsk.look {w : World} {F : List Nat} {g n : Nat} {D : DiskSt} (h : Dsk w F g n D) (k : Int) : ∃ gm, w.cell? ⟨g, 1, none⟩ = some (.map (some gm)) ∧
    ((cget D.M k = none ∧ ∀ ok, (Instr.lookup 68 (.map (some gm)) (.int .i64 k) ok).run Try.prog w = .ok (if ok then .tuple #[.slice none 0 0, .bool false] else .slice none 0 0) w) ∨
     ∃ A c x, cget D.M k = some x ∧ (∀ ok, (Instr.lookup 68 (.map (some gm)) (.int .i64 k) ok).run Try.prog w = .ok (if ok then .tuple #[.slice A x.length c, .bool true] else .slice A x.length c) w) ∧ Rd w A x ∧ x.length ≤ c ∧ c ≤ maxLen ∧ ∀ ad, A = some ad → ad.block ∈ F) := by
  obtain ⟨gb, c, gm, O, oc, L, V, h1, h2, h3, h4, h5, h6, h7, h8, h9, h10⟩ := h
  refine ⟨gm, (row4 h1).2.1, ?_⟩
  have hl := fun ok => map_lookup Try.underlying68 Try.underlying3 h3 k ok (zeroB w)
  rcases h4.get k with ⟨e1, e2⟩ | ⟨A, c', x, e1, e2, hr, k1, k2, k3⟩
  · left
    refine ⟨e2, fun ok => ?_⟩
    rw [hl ok, e1]; rfl
  · right
    refine ⟨A, c', x, e2, fun ok => ?_, hr, k1, k2, fun ad ha => (k3 ad ha).1⟩
    rw [hl ok, e1]; rfl
/-- What Read returns, and leaves. -/
def sdRead (D : DiskSt) (n : Nat) (k : Int) : List Byte × Int × DiskSt :=
  if k < 0 ∨ (n : Int) ≤ k then ([], 2, D) else if (ffail D.fuse).1 then ([], 8, { D with fuse := (ffail D.fuse).2 })
  else ((cget D.M k).getD (sec D.b k.toNat), 0, { D with fuse := (ffail D.fuse).2 })
set_option maxRecDepth 100000 in
set_option maxHeartbeats 1000000 in
theorem dsk_Read {w : World} {F : List Nat} {g n : Nat} {D : DiskSt} (h : Dsk w F g n D) (k : Int) :
    Calls Try.prog 43 #[.pointer (some ⟨g, 0, none⟩), .int .i64 k] w fun e w' => ∃ A c, e = .returned (.tuple #[.slice A (sdRead D n k).1.length c, .int .i64 (sdRead D n k).2.1]) ∧ Rd w' A (sdRead D n k).1 ∧ (∀ ad, A = some ad → w.heap.size ≤ ad.block) ∧ Dsk w' F g n (sdRead D n k).2.2 ∧ TS F w w' ∧ (sdRead D n k).1.length ≤ c ∧ c ≤ maxLen := by
  have H := Lib.hid h
  unfold sdRead
  by_cases hneg : k < 0
  · rw [if_pos (.inl hneg)]
    clear h
    go_enter Try.func43, Try.ntmps43
    go_wp2_with fail
    refine (dsk_made H.out).mono ?_
    rintro e w1 ⟨rfl, rfl⟩
    go_wp2
    go_ret2
    exact ⟨none, 0, rfl, Rd.nil _ _, fun ad ha => (by cases ha), H.out, TS.refl _ _, by simp, by simp [maxLen]⟩
  · by_cases hbig : (n : Int) ≤ k
    · rw [if_pos (.inr hbig)]
      clear h
      go_enter Try.func43, Try.ntmps43
      go_wp2_with fail
      refine (dsk_made H.out).mono ?_
      rintro e w1 ⟨rfl, rfl⟩
      go_wp2_with fail
      refine (dsk_Sectors H.out).mono ?_
      rintro e w1 ⟨rfl, rfl⟩
      go_wp2
      go_ret2
      exact ⟨none, 0, rfl, Rd.nil _ _, fun ad ha => (by cases ha), H.out, TS.refl _ _, by simp, by simp [maxLen]⟩
    · rw [if_neg (by omega)]
      have HFA := Lib.hid (dsk_fails h)
      cases hff : (ffail D.fuse).1 with
      | true =>
        rw [if_pos rfl]
        rw [hff] at HFA
        clear h hff
        go_enter Try.func43, Try.ntmps43
        go_wp2_with fail
        refine (dsk_made H.out).mono ?_
        rintro e w1 ⟨rfl, rfl⟩
        go_wp2_with fail
        refine (dsk_Sectors H.out).mono ?_
        rintro e w1 ⟨rfl, rfl⟩
        go_wp2_with fail
        refine HFA.out.mono ?_
        rintro e w1 ⟨rfl, hd, ht⟩
        have HD1 := Lib.hid hd
        have HT1 := Lib.hid ht
        clear hd ht
        go_wp2
        go_ret2
        exact ⟨none, 0, rfl, Rd.nil _ _, fun ad ha => (by cases ha), HD1.out, HT1.out, by simp, by simp [maxLen]⟩
      | false =>
        rw [if_neg (by simp)]
        rw [hff] at HFA
        have hlen := h.ok
        obtain ⟨kn, rfl⟩ : ∃ kn : Nat, k = (kn : Int) := ⟨k.toNat, by omega⟩
        have hkn : kn < n := by omega
        have HSL := Lib.hid (sec_len hlen.len hkn)
        have HCM := Lib.hid (show ∀ x, cget D.M (kn : Int) = some x → x.length = 512 from fun x hx => by
          have hM := hlen.M
          clear hlen HFA hff
          revert hx hM
          generalize D.M = M
          induction M with
          | nil => intro hx _; cases hx
          | cons p M ih =>
            obtain ⟨pk, pv⟩ := p
            intro hx hM
            rw [cget] at hx
            by_cases h0 : pk = (kn : Int)
            · rw [if_pos h0] at hx; cases hx; exact (hM _ List.mem_cons_self).2.2
            · rw [if_neg h0] at hx; exact ih hx (fun p hp => hM p (List.mem_cons_of_mem _ hp)))
        simp only [Int.toNat_natCast]
        generalize (ffail D.fuse).2 = fz at *
        generalize hxx : (cget D.M (kn : Int)).getD (sec D.b kn) = xx
        clear h hff hlen
        go_enter Try.func43, Try.ntmps43
        go_wp2_with fail
        refine (dsk_made H.out).mono ?_
        rintro e w1 ⟨rfl, rfl⟩
        go_wp2_with fail
        refine (dsk_Sectors H.out).mono ?_
        rintro e w1 ⟨rfl, rfl⟩
        go_wp2_with fail
        refine HFA.out.mono ?_
        rintro e w1 ⟨rfl, hd, ht⟩
        have HD1 := Lib.hid hd
        have HT1 := Lib.hid ht
        obtain ⟨gm, q1, hlk⟩ := hd.look (kn : Int)
        clear hd ht
        rcases hlk with ⟨hc, hl⟩ | ⟨A, c, x, hc, hl, hr, k1, k2, k3⟩
        · have hl1 := hl true
          rw [if_pos rfl] at hl1
          have hxe : xx = sec D.b kn := by rw [← hxx, show cget D.M (kn : Int) = none from hc]; rfl
          have HX := Lib.hid hxe
          clear hc hl hxx hxe
          go_wp2_with fail
          refine (dsk_sector HD1.out kn hkn).mono ?_
          rintro e w2 ⟨gb, c, rfl, k1, k2, hr, -, rfl⟩
          have HR := Lib.hid hr
          clear hr
          go_wp2_with fail
          refine (sl_Clone (sec D.b kn) _ 512 c _ HSL.out.symm (by rw [HSL.out]; omega) HR.out).mono ?_
          rintro e w3 ⟨A3, c3, rfl, ho, hb⟩
          have HO3 := Lib.hid (Own.info ho)
          have HF3 := Lib.hid (show FB w1 w3 from hb)
          clear ho hb
          go_wp2
          go_ret2
          rw [HX.out]
          exact ⟨A3, c3, by rw [HSL.out]; rfl, HO3.out.2.2.1, fun ad ha => Nat.le_trans HT1.out.size ((HO3.out.2.2.2.2 ad ha).1), HD1.out.fb HF3.out, HT1.out.then (TS.of HF3.out), HO3.out.1, HO3.out.2.1⟩
        · have hl1 := hl true
          rw [if_pos rfl] at hl1
          have HXL := Lib.hid (HCM.out x hc)
          rw [HXL.out] at hl1 k1
          have hxe : xx = x := by rw [← hxx, show cget D.M (kn : Int) = some x from hc]; rfl
          have HX := Lib.hid hxe
          have HR := Lib.hid hr
          clear hc hl hr k3 hxx hxe
          go_wp2_with fail
          refine (sl_Clone x A 512 c _ HXL.out.symm (by rw [HXL.out]; omega) HR.out).mono ?_
          rintro e w3 ⟨A3, c3, rfl, ho, hb⟩
          have HO3 := Lib.hid (Own.info ho)
          have HF3 := Lib.hid (show FB w1 w3 from hb)
          clear ho hb
          go_wp2
          go_ret2
          rw [HX.out]
          exact ⟨A3, c3, by rw [HXL.out]; rfl, HO3.out.2.2.1, fun ad ha => Nat.le_trans HT1.out.size ((HO3.out.2.2.2.2 ad ha).1), HD1.out.fb HF3.out, HT1.out.then (TS.of HF3.out), HO3.out.1, HO3.out.2.1⟩
end Go.Proofs.Ytoidlmhebnlnbaa
