/- The reference's disk: the walks through Flush, Crash. -/
import Derived.Test.YtbedpjpddcjpkaaRfh
set_option linter.unusedVariables false
set_option linter.unusedSimpArgs false
namespace Go.Proofs.Ytbedpjpddcjpkaa
open Go.ChangeShapes Go.WideShapes Go.ChangeAt Go.RowKit Go.MapKept
set_option maxRecDepth 100000

/-- x[k:], with the address. -/
theorem cut_from (gb c : Nat) (m k : Nat) (hk : k < m) (hc : m ≤ c) (W : World) :
    (Instr.slice 34 (.slice (some ⟨gb, 0, none⟩) m c) (some (.int .i64 (k : Int))) none none).run Try.prog W = .ok (.slice (some ⟨gb, k, none⟩) (m - k) (c - k)) W := by
  obtain ⟨i, hi, _, hsz, _⟩ := info_parts info_u8
  have hel : Try.prog.elem 34 = 5 := by simp [Program.elem, Try.underlying34]
  have hu : Try.prog.underlying 34 = some (.slice (Try.prog.elem 34)) := by rw [hel]; exact Try.underlying34
  have hck : c ≠ k := by omega
  rw [run_slice_l W 34 (some ⟨gb, 0, none⟩) m c hu .i64 (k : Int) (Int.natCast_nonneg _) (by omega), hel]
  simp [sizeOf, typeInfo, hi, hsz, sliced, Result.andThen, hck, Addr.add]
  intro e; exact e.symm
section
variable {w w' : World} {F F' : List Nat} {g n gb c : Nat} {NA : Option Addr} {nc : Nat} {CA : Option Addr} {cc : Nat} {V : List (Int × Value)} {D : DiskSt}
/-- The disk's bytes written. -/
theorem RD.copied (h : RD w F g n gb c NA nc CA cc V D) (b : List Byte) (hb : b.length = 512 * n) (ho : Own w' 0 (.slice (some ⟨gb, 0, none⟩) (512 * n) c) b) (htb : TB gb w w') : RD w' F g n gb c NA nc CA cc V { D with b := b } ∧ TS F w w' := by
  obtain ⟨d1, d2, d3, d4, d5, d6⟩ := h.disj
  have hts : TS [gb] w w' := TS.tb htb (by simp)
  refine ⟨⟨?_, ho, ?_, ?_, ?_, h.nodup, h.mem, fun x hx => Nat.lt_of_lt_of_le (h.lt x hx) hts.size, ⟨hb, h.ok.n1, h.ok.n2, h.ok.M, h.ok.f⟩, h.nd⟩, TS.tb htb (h.mem gb (by simp [rctl]))⟩
  · rw [hts.block g (Array.getElem?_eq_some_iff.1 h.row).1 (by simpa using d6)]; exact h.row
  · exact hts.ownV h.keys (fun b hb => by simp only [List.mem_singleton]; rintro rfl; exact d4 (own_out hb))
  · exact hts.ownV h.rows (fun b hb => by simp only [List.mem_singleton]; rintro rfl; exact d5 (own_out hb))
  · exact h.vals.move (fun A x hr hb => hts.rd hr (fun ad ha hf => (hb ad ha).2 (by simp only [List.mem_singleton] at hf; simp [rctl, hf]))) (fun b h h' => ⟨h, h'⟩)
/-- The cache made empty. -/
theorem RD.emptied (h : RD w F g n gb c NA nc CA cc V D) :
    RD ((w.setCell ⟨g, 1, none⟩ (.slice none 0 0)).setCell ⟨g, 2, none⟩ (.slice none 0 0)) F g n gb c none 0 none 0 [] { D with M := [] } ∧ TS F w ((w.setCell ⟨g, 1, none⟩ (.slice none 0 0)).setCell ⟨g, 2, none⟩ (.slice none 0 0)) := by
  obtain ⟨d1, d2, d3, d4, d5, d6⟩ := h.disj
  have hs1 : TS [g] w (w.setCell ⟨g, 1, none⟩ (.slice none 0 0)) := TS.tb (TB.set w 1 _) (by simp)
  have hs2 : TS [g] (w.setCell ⟨g, 1, none⟩ (.slice none 0 0)) ((w.setCell ⟨g, 1, none⟩ (.slice none 0 0)).setCell ⟨g, 2, none⟩ (.slice none 0 0)) := TS.tb (TB.set _ 2 _) (by simp)
  have hs := hs1.then hs2
  have hrow1 := heap_setCell_same w g 1 _ _ (.slice none 0 0) h.row
  have hrow2 := heap_setCell_same _ g 2 _ _ (.slice none 0 0) hrow1
  refine ⟨⟨?_, ?_, OwnV.nil _ _ _, OwnV.nil _ _ _, .nil, ?_, fun x hx => ?_, fun x hx => Nat.lt_of_lt_of_le (h.lt x hx) hs.size, ⟨h.ok.len, h.ok.n1, h.ok.n2, by simp, h.ok.f⟩, by simp⟩, ?_⟩
  · rw [hrow2]; rfl
  · exact hs.ownV h.bytes (fun b hb => by cases hb; simp only [List.mem_singleton]; exact fun e => d6 e.symm)
  · simp [rctl, optBlk, d6]
  · simp only [rctl, optBlk, Option.toList_none, List.map_nil, List.append_nil] at hx
    exact h.mem x (by simp only [rctl, List.mem_append]; exact .inl hx)
  · exact (TS.refl F w).trans hs (fun x hx => .inl (by simp only [List.mem_singleton] at hx; rw [hx]; exact h.mem g (by simp [rctl])))
end
section
variable {w : World} {F : List Nat} {g n : Nat} {D : DiskSt}
set_option maxHeartbeats 2000000 in
theorem ref_Flush (h : RDsk w F g n D) : Calls Try.prog 26 #[.pointer (some ⟨g, 0, none⟩)] w fun e w' => e = .returned (.int .i64 (sdFlush D).1) ∧ RDsk w' F g n (sdFlush D).2 ∧ TS F w w' := by
  have H := Lib.hid h
  have HFA := Lib.hid (ref_fails h)
  unfold sdFlush
  cases hff : (ffail D.fuse).1 with
  | true =>
    rw [if_pos rfl]
    rw [hff] at HFA
    clear h hff
    go_enter Try.func26, Try.ntmps26
    go_wp2_with fail
    refine HFA.out.mono ?_
    rintro e w1 ⟨rfl, hd, ht⟩
    have HD1 := Lib.hid hd
    have HT1 := Lib.hid ht
    clear hd ht
    go_wp2
    go_ret
    exact ⟨rfl, HD1.out, HT1.out⟩
  | false =>
    rw [if_neg (by simp)]
    rw [hff] at HFA
    generalize (ffail D.fuse).2 = fz at *
    clear h hff
    go_enter Try.func26, Try.ntmps26
    go_wp2_with fail
    refine HFA.out.mono ?_
    rintro e w1 ⟨rfl, hd, ht⟩
    have HT1 := Lib.hid ht
    clear ht
    obtain ⟨gb, c, NA, nc, CA, cc, V, hD⟩ := hd
    have HOK := Lib.hid hD.ok
    have HND := Lib.hid hD.nd
    have HML := Lib.hid hD.mlen
    have HD1 := Lib.hid hD
    clear hD
    go_wp2_with fail
    go_loopw [3] (fun c3 wr => ∃ j : Nat, j ≤ D.M.length ∧ c3 = .int .i64 j ∧ Hid (RD wr F g n gb c NA nc CA cc V { D with b := crashB (fun _ => 512) D.M D.b j, fuse := fz }) ∧ Hid (TS F w1 wr)) (fun c3 _ => D.M.length - (intOf c3).toNat)
    case atStart => exact ⟨0, by omega, rfl, HD1.out, TS.refl _ _⟩
    case round =>
      obtain ⟨j, hj, rfl, HDK, HT⟩ := hrel
      obtain ⟨q0, q1, q2, q3⟩ := row4 HDK.out.row
      simp only at q0 q1 q2 q3
      have hml : (D.M.length : Int) ≤ 32768 := by have := HML.out; have := HOK.out.n2; omega
      by_cases hlt : j < D.M.length
      · have hjx : (j : Int) < (D.M.length : Int) := by omega
        have HMJ := Lib.hid (show D.M[j]? = some D.M[j] from List.getElem?_eq_getElem hlt)
        generalize D.M[j] = p at *
        obtain ⟨k, x⟩ := p
        obtain ⟨cb, A4, c4, hCA, r1, -, r2, r3, -, r5, -⟩ := HDK.out.at (i := j) (k := k) (x := x) HMJ.out
        subst hCA
        have hsel := HOK.out.M _ (List.mem_of_getElem? HMJ.out)
        simp only at hsel
        obtain ⟨kn, rfl⟩ : ∃ kn : Nat, k = (kn : Int) := ⟨k.toNat, by omega⟩
        have hkn : kn < n := by omega
        have HXL := Lib.hid hsel.2.2
        have hkr := (OwnV.info HDK.out.keys).2.2.1
        obtain ⟨kb, ko, rfl, -, hkc⟩ := RdV.form hkr (by rw [List.length_map]; simp only; omega)
        have hkj := hkc j (by rw [List.length_map]; exact hlt)
        rw [List.getElem_map] at hkj
        have hpj : D.M[j] = ((kn : Int), x) := by have := HMJ.out; rw [List.getElem?_eq_getElem hlt] at this; simpa using this
        simp only [hpj] at hkj
        have HKJ := Lib.hid hkj
        have HR1 := Lib.hid r1
        have hlen := HDK.out.ok.len
        simp only at hlen
        have hin := Own.info HDK.out.bytes
        simp only [hlen] at hin
        have hcut := fun W => cut_from gb c (512 * n) (512 * kn) (by omega) hin.1 W
        have hcut2 : ∀ W, (Instr.slice 34 (.slice (some ⟨gb, 0, none⟩) (512 * n) c) (some (.int .i64 ((kn : Int) * 512))) none none).run Try.prog W = .ok (.slice (some ⟨gb, 512 * kn, none⟩) (512 * n - 512 * kn) (c - 512 * kn)) W := fun W => by
          have := hcut W
          rw [show ((512 * kn : Nat) : Int) = (kn : Int) * 512 by omega] at this
          exact this
        have HCUT := Lib.hid hcut2
        have hw1 : IntKind.i64.wrap ((kn : Int) * 512) = (kn : Int) * 512 := by rw [IntKind.wrap_i64]; have := HOK.out.n2; omega
        have HW1 := Lib.hid hw1
        have HRX := Lib.hid r2
        have HAF := Lib.hid r5
        have HCF := Lib.hid (show cb ∈ F ∧ kb ∈ F ∧ g ∈ F from ⟨HDK.out.mem cb (by simp [rctl, optBlk]), HDK.out.mem kb (by simp [rctl, optBlk]), HDK.out.mem g (by simp [rctl])⟩)
        rw [HXL.out] at HR1
        clear hkr hkc hkj hpj r1 r2 r3 r5 hsel hlen hin hcut hcut2 hw1
        go_wp2_with fail
        obtain ⟨W1, hW1⟩ : ∃ W1 : World, W1 = wr := ⟨_, rfl⟩
        rw [← hW1]
        refine region_sch (E := TS ([gb])) ((0, true) :: (1, true) :: (2, true) :: (3, true) :: (4, true) :: (5, true) :: (6, true) :: (7, true) :: (8, true) :: (9, true) :: (10, true) :: (11, true) :: (12, true) :: (13, true) :: (14, true) :: (15, true) :: (16, true) :: (17, true) :: (18, true) :: (19, true) :: (20, false) :: []) (by kernel_rfl) (TS.refl _) (fun _ _ _ h k => TS.then h k) (fun _ _ d _ _ h => by cases d <;> exact h) (by kernel_rfl) ?_
        intro ops hops0
        have hops := Lib.hid hops0
        clear hops0
        have HF : TS ([gb]) W1 W1.drew := TS.of (FB.refl _).drew
        have HD : FB W1 W1.drew := (FB.refl _).drew
        generalize W1.drew = wF1 at *
        rw [hW1] at HF HD
        clear hW1 q0 q1 q2 q3
        have HDW := Lib.hid (HDK.out.fb HD)
        have HQ := Lib.hid (row4 HDW.out.row)
        have HKC := Lib.hid (FB.cell HD HKJ.out)
        have HCC := Lib.hid (FB.cell HD HR1.out)
        have HNG := Lib.hid (show g ∉ [gb] ∧ cb ∉ [gb] ∧ kb ∉ [gb] from by
          have hd := HDK.out.disj
          refine ⟨by simpa using hd.2.2.2.2.2, ?_, ?_⟩
          · simp only [List.mem_singleton]; rintro rfl; exact hd.2.2.2.2.1 (by simp [optBlk])
          · simp only [List.mem_singleton]; rintro rfl; exact hd.2.2.2.1 (by simp [optBlk]))
        have hlen := HDW.out.ok.len
        simp only at hlen
        obtain ⟨w6, hrun6, hown, htb6⟩ := run_copy_sec HDW.out.bytes (512 * kn) (512 * n - 512 * kn) (c - 512 * kn) A4 c4 x (FB.rd HD HRX.out) (by rw [HXL.out]; omega) (by rw [HXL.out, hlen]; omega)
        rw [HXL.out] at hrun6
        have HC6 := Lib.hid (show splice (crashB (fun _ => 512) D.M D.b j) (512 * kn) x = crashB (fun _ => 512) D.M D.b (j + 1) from by
          rw [crashB, HMJ.out]
          simp only [Int.toNat_natCast]
          rw [List.take_of_length_le (by rw [HXL.out]; exact Nat.le_refl _)])
        simp only at hown
        rw [HC6.out] at hown
        obtain ⟨hd6, ht6⟩ := HDW.out.copied _ (crashB_len HOK.out.len HOK.out.M _) hown htb6
        have HD6 := Lib.hid hd6
        have HT6 := Lib.hid (HT.out.then ((TS.of HD).then ht6))
        have HE6 := Lib.hid (show TS [gb] wF1 w6 from TS.tb htb6 (by simp))
        have HRUN := Lib.hid hrun6
        clear hlen hrun6 hown htb6 hd6 ht6
        repeat (refine sch_take (o := ?_) (v := ?_) (a' := ?_) (at_of hops.out ?_) ?_ (fun W hW => ?_) ?_ ?_; rotate_left 3; (focus (simp only [List.getElem?_toArray, List.getElem?_cons_zero, List.getElem?_cons_succ]; rfl)); (focus (rw [hops.out]; rfl)); (focus (have u1 := TS.cell hW HQ.out.1 HNG.out.1; have u2 := TS.cell hW HQ.out.2.1 HNG.out.1; have u3 := TS.cell hW HQ.out.2.2.1 HNG.out.1; have u4 := TS.cell hW HKC.out HNG.out.2.2; have u5 := TS.cell hW HCC.out HNG.out.2.1; have u6 := HCUT.out W; have u7 := HW1.out; go_simp; with_reducible rfl)); (focus (simp only [Act.put, List.setIfInBounds_toArray, List.set_cons_zero, List.set_cons_succ]; rfl)))
        (refine sch_copy (o := ?_) (at_of hops.out ?_) ?_ (.tmp 27) (.tmp 34) 34 34 ?_ _ _ ?_ ?_ HRUN.out HE6.out ?_; rotate_left 1; (focus (simp only [List.getElem?_toArray, List.getElem?_cons_zero, List.getElem?_cons_succ]; rfl)); (focus (rw [hops.out]; rfl)); (focus rfl); (focus rfl); (focus rfl))
        refine sch_done ?_
        clear hops HF
        go_wp2
        go_roundw
        case rel => exact ⟨j + 1, by omega, by go_num, HD6.out, HT6.out⟩
        case measure => simp [intOf]; omega
      · obtain rfl : j = D.M.length := by omega
        have hjx : ¬ (D.M.length : Int) < (D.M.length : Int) := by omega
        have f1 := frozen_row _ HDK.out.row 1
        have hrow1 := heap_setCell_same _ g 1 _ _ (.slice none 0 0) HDK.out.row
        obtain ⟨s0, s1, s2, s3⟩ := row4 hrow1
        have f2 := frozen_row _ hrow1 2
        obtain ⟨h1, h2⟩ := HDK.out.emptied
        have H1 := Lib.hid h1
        have H2 := Lib.hid (HT1.out.then (HT.out.then h2))
        clear hrow1 h1 h2
        go_wp2
        go_ret
        exact ⟨rfl, ⟨gb, c, _, _, _, _, _, H1.out⟩, H2.out⟩
end
end Go.Proofs.Ytbedpjpddcjpkaa
