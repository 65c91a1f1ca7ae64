/- chain: the walk through the iterator. -/
import Derived.Test.YtoidlmhebnlnbaaDoorMCha
import Derived.Test.YtoidlmhebnlnbaaDoorMChb
import Derived.Test.YtoidlmhebnlnbaaDoorMChc
import Derived.Test.YtoidlmhebnlnbaaDoorMChd
import Derived.Test.YtoidlmhebnlnbaaDoorMChe
import Derived.Test.YtoidlmhebnlnbaaDoorMChf
import Derived.Test.YtoidlmhebnlnbaaDoorMChg
import Derived.Test.YtoidlmhebnlnbaaDoorMChh
import Derived.Test.YtoidlmhebnlnbaaDoorMChi
import Derived.Test.YtoidlmhebnlnbaaDoorMChj
import Derived.Test.YtoidlmhebnlnbaaDoorMChk
import Derived.Test.YtoidlmhebnlnbaaDoorMChl
import Derived.Test.YtoidlmhebnlnbaaDoorMChm
import Derived.Test.YtoidlmhebnlnbaaDoorMChn
import Derived.Test.YtoidlmhebnlnbaaDoorMCho
set_option linter.unusedVariables false
set_option linter.unusedSimpArgs false
namespace Go.Proofs.YtoidlmhebnlnbaaDoor
open Go.ChangeShapes Go.WideShapes Go.ChangeAt Go.RowKit
attribute [local go_sem] nb_nonneg nb_lt8 nb_lt64 Oper.semAt_some
set_option maxRecDepth 100000

section
variable {n : Nat} {kind most : Int} {f i : Nat} {seen : List Int} {head : Int} {st : PlSt}
theorem chRd_err (h : (plGet n st head).1.2 ≠ 0) : chRd n kind most (f + 1) i seen head st = (([], (plGet n st head).1.2), (plGet n st head).2) := by rw [chRd, if_neg h]
theorem chRd_bad (h : (plGet n st head).1.2 = 0) (hg : ¬ chGood kind i most (seen ++ [head]) (plGetB n st head)) : chRd n kind most (f + 1) i seen head st = (([], 4), (plGet n st head).2) := by rw [chRd, if_pos h, if_neg hg]
theorem chRd_last (h : (plGet n st head).1.2 = 0) (hg : chGood kind i most (seen ++ [head]) (plGetB n st head)) (hx : chNx (pgR (plGetB n st head)).1.2.2 = 0) :
    chRd n kind most (f + 1) i seen head st = (([(head, chBs (pgR (plGetB n st head)).1.2.2)], 0), (plGet n st head).2) := by rw [chRd, if_pos h, if_pos hg, if_pos hx]
theorem chRd_next (h : (plGet n st head).1.2 = 0) (hg : chGood kind i most (seen ++ [head]) (plGetB n st head)) (hx : chNx (pgR (plGetB n st head)).1.2.2 ≠ 0) :
    chRd n kind most (f + 1) i seen head st = (((head, chBs (pgR (plGetB n st head)).1.2.2) :: (chRd n kind most f (i + 1) (seen ++ [head]) (chNx (pgR (plGetB n st head)).1.2.2 : Nat) (plGet n st head).2).1.1,
          (chRd n kind most f (i + 1) (seen ++ [head]) (chNx (pgR (plGetB n st head)).1.2.2 : Nat) (plGet n st head).2).1.2),
          (chRd n kind most f (i + 1) (seen ++ [head]) (chNx (pgR (plGetB n st head)).1.2.2 : Nat) (plGet n st head).2).2) := by rw [chRd, if_pos h, if_pos hg, if_neg hx]
end
theorem pgR_body {b : List Byte} (h : (pgR b).2 = 0) : (pgR b).1.2.2.length = 4080 := by
  unfold pgR at h ⊢
  split at h
  · rename_i hc
    rw [if_pos hc]
    show (b.drop 16).length = 4080
    rw [List.length_drop, hc.1]
  · simp at h
/-- What has been handed over, and what is left. -/
def chAdd (pre : List (Int × List Byte)) (r : (List (Int × List Byte) × Int) × PlSt) : (List (Int × List Byte) × Int) × PlSt := ((pre ++ r.1.1, r.1.2), r.2)
theorem chAdd_err (pre : List (Int × List Byte)) (c : Int) (st : PlSt) : chAdd pre (([], c), st) = ((pre, c), st) := by simp [chAdd]
theorem chAdd_last (pre : List (Int × List Byte)) (x : Int × List Byte) (c : Int) (st : PlSt) : chAdd pre (([x], c), st) = ((pre ++ [x], c), st) := rfl
theorem chAdd_next (pre : List (Int × List Byte)) (x : Int × List Byte) (r : (List (Int × List Byte) × Int) × PlSt) : chAdd pre ((x :: r.1.1, r.1.2), r.2) = chAdd (pre ++ [x]) r := by simp [chAdd]
theorem u32_wrap (i : Nat) : IntKind.u32.wrap (i : Int) = nb (BitVec.ofNat 32 i) := by
  rw [IntKind.wrap_u32]; unfold nb; rw [BitVec.toNat_ofNat]; omega
theorem ch_xlt (xs : List Byte) (h : xs.length ≤ 7) : (xword xs).toNat < 2 ^ (8 * xs.length) := by
  induction xs with
  | nil => simp [xword]
  | cons x xs ih =>
    have := ih (by simp at h; omega)
    rw [xword, BitVec.toNat_or]
    refine Nat.or_lt_two_pow ?_ ?_
    · rw [BitVec.toNat_setWidth]
      refine Nat.lt_of_le_of_lt (Nat.mod_le _ _) (Nat.lt_of_lt_of_le x.isLt (Nat.pow_le_pow_right (by omega) (by rw [List.length_cons]; omega)))
    · rw [BitVec.toNat_shiftLeft]
      refine Nat.lt_of_le_of_lt (Nat.mod_le _ _) ?_
      rw [Nat.shiftLeft_eq, List.length_cons, show 8 * (xs.length + 1) = 8 * xs.length + 8 from by omega, Nat.pow_add]
      exact Nat.mul_lt_mul_of_pos_right this (by simp)
theorem ch_xlq (xs : List Byte) (q : Nat) (h : xs.length = q) (hq : q ≤ 7) : (xword xs).toNat < 2 ^ (8 * q) := by subst h; exact ch_xlt xs hq
/-- A call within a fence that lets all in. -/
theorem in_call {P : Program} {f : FuncId} {args : Array Value} {w : World} {R R' : Ending → World → Prop} {m : Nat} (h : Calls P f args w R) (hm : ∀ e w', R e w' → R' e w') : Fence.wide.fn f ∧ CallsIn Fence.wide m P f args w R' := ⟨trivial, CallsIn.mono (callsIn_wide.2 h) hm⟩
/-- How it ends. -/
def ChEnd (w0 : World) (g n gp gf er : Nat) (kind most head : Int) (st : PlSt) (J Jx : List ChX → List Nat → World → Prop) (e : Ending) (W' : World) : Prop :=
  (∃ v, e = .returned v) ∧ ((∃ xs K', ChDone w0 g n gp gf er kind most head st xs K' W' ∧ J xs K' W') ∨ (∃ xs K', True ∧ Jx xs K' W'))
theorem ChM.done {w0 W : World} {g n gp gf gm bp bh be bk bm er : Nat} {kind most head h0 code : Int} {seen : List Int} {st st0 : PlSt} {K : List Nat} {J Jx : List ChX → List Nat → World → Prop} {pre : List ChX} (h : ChM w0 g n gp gf gm bp bh be bk bm er kind most head seen code st K (J pre K) W)
    (hR : chRd n kind most (chFuel most) 0 [] h0 st0 = ((pre.map ChX.pl, code), st)) (v : Value) : ChEnd w0 g n gp gf er kind most h0 st0 J Jx (.returned v) W := by
  refine ⟨⟨v, rfl⟩, .inl ⟨pre, K, ⟨?_, ?_, ?_, h.dis er (by simp)⟩, h.j⟩⟩
  · rw [hR]
    exact h.po.fewer (fun b hb => by
      rcases List.mem_cons.1 hb with rfl | hb
      · simp
      · exact List.mem_append_right _ hb)
  · rw [hR]; exact h.it.c
  · rw [hR]
set_option maxHeartbeats 4000000 in
theorem ch_parts1 (m : Nat) (hm : 1 ≤ m) (w0 : World) (g n gp gf bp bh be bk bm er : Nat) (kind most head : Int) (st : PlSt) (hst : PlInv n st) (hmost : most ≤ 9223372036854775807) (hnd : [bp, bh, be, bk, bm, er].Nodup) :
    SeqTwo Fence.wide m Tryd.prog 45 #[.pointer (some ⟨bp, 0, none⟩), .pointer (some ⟨bh, 0, none⟩), .pointer (some ⟨be, 0, none⟩), .pointer (some ⟨bk, 0, none⟩), .pointer (some ⟨bm, 0, none⟩)] ChX.enc
      (ChStart w0 g n gp gf bp bh be bk bm er kind most head st) (ChXok n) (ChDone w0 g n gp gf er kind most head st) (fun _ _ _ => True) := by
  intro l J Jx K W hJ hJx hY h0 hj
  obtain ⟨hpo, b1, b2, b3, b4, b5, b6, hdis, hge⟩ := h0
  have hmk := @run_makeMap Tryd.prog
  have HY := Lib.hid hY
  have HJ := Lib.hid hJ
  have HI := Lib.hid hst
  have HMO := Lib.hid hmost
  have hB0 : FB W (W.alloc (.map #[] 0)) := (FB.refl W).alloc _
  obtain ⟨gm, hgm⟩ : ∃ gm, gm = W.heap.size := ⟨_, rfl⟩
  have hkl := hpo.kl
  have HM0 := Lib.hid (show ChM w0 g n gp gf gm bp bh be bk bm er kind most head [] 0 st K (J [] K) (W.alloc (.map #[] 0)) from by
    refine ⟨?_, ⟨b1.alloc _, b2.alloc _, b3.alloc _, b4.alloc _, b5.alloc _, b6.alloc _, by rw [hgm]; exact MapAt.new W⟩, hJ _ _ _ _ hj ((hpo.kp hB0).fewer (fun b hb => List.mem_append_right _ hb)), fun b hb => ?_, fun b hb => ?_, ?_, hJ _ _⟩
    · exact hpo.add hB0 gm (by omega) (by rw [hgm]; simp)
    · rcases List.mem_cons.1 hb with rfl | hb
      · intro hm; have := hkl b (List.mem_append_right _ hm); omega
      · exact hdis b hb
    · rcases List.mem_cons.1 hb with rfl | hb
      · rw [hgm]; exact hpo.fb.le
      · exact hge b hb
    · refine List.nodup_cons.2 ⟨fun hm => ?_, hnd⟩
      have := hkl gm (List.mem_append_left _ hm); omega)
  show CallsIn Fence.wide m Tryd.prog 45 _ W (ChEnd w0 g n gp gf er kind most head st J Jx)
  obtain ⟨R, hR⟩ : ∃ R, R = chRd n kind most (chFuel most) 0 [] head st := ⟨_, rfl⟩
  have HR := Lib.hid hR
  clear hR
  have HGM := Lib.hid hgm
  clear hpo b1 b2 b3 b4 b5 b6 hdis hge hkl hB0 hj hJ hJx hY hst hmost hnd
  refine callsIn_of_wp Tryd.func45 rfl trivial ?_ rfl
  simp only [Tryd.ntmps45, List.size_toArray, List.length_cons, List.length_nil, Nat.reduceAdd, Nat.reduceSub, Array.replicate_succ, Array.replicate_zero, List.push_toArray, List.append_toArray, List.nil_append, List.cons_append]
  gi_wp2
  rw [← HGM.out]
  generalize W.alloc (.map #[] 0) = w1 at *
  clear hgm HGM hmk
  gi_loopw [8] (fun s8 wr => ∃ (pre : List ChX) (K' : List Nat) (seen : List Int) (hd : Int) (st' : PlSt) (i : Nat), s8 = .int .i64 i ∧ Hid (ChM w0 g n gp gf gm bp bh be bk bm er kind most hd seen 0 st' K' (J pre K') wr) ∧
      Hid (pre.length = i ∧ i ≤ most.toNat ∧ PlInv n st' ∧ seen.Nodup ∧ seen.length = i ∧ (∀ x ∈ seen, ¬ pgOut n x) ∧ hd ∉ seen ∧ ∀ y ∈ pre, y.b.length ≤ 4074) ∧ Hid (R = chAdd (pre.map ChX.pl) (chRd n kind most (most.toNat + 1 - i) i seen hd st'))) (fun s8 _ => chFuel most - (intOf s8).toNat)
  case atStart => exact ⟨[], K, [], head, st, 0, rfl, HM0, Lib.hid ⟨rfl, Nat.zero_le _, HI.out, List.nodup_nil, rfl, by simp, by simp, by simp⟩, Lib.hid (by rw [HR.out]; simp [chAdd, chFuel])⟩
  case round =>
    clear HM0 HI
    obtain ⟨pre, K', seen, hd, st', i, rfl, HM, HF, HRj⟩ := hrel
    obtain ⟨f, hf⟩ : ∃ f, f = most.toNat - i := ⟨_, rfl⟩
    have hrj := HRj.out
    rw [show most.toNat + 1 - i = f + 1 from by have := HF.out.2.1; omega] at hrj
    have HRJ := Lib.hid hrj
    have HFU := Lib.hid hf
    clear hrj HRj hf
    have c0 := HM.out.it.p.cell
    have c1 := HM.out.it.h.cell
    have hpi := plGet_inv HF.out.2.2.1 hd
    have HPI := Lib.hid hpi
    have HG := Lib.hid (po_GetC HM.out.po hd)
    have hRe := fun h => HRJ.out.trans (congrArg (chAdd (pre.map ChX.pl)) (chRd_err (n := n) (kind := kind) (most := most) (f := f) (i := i) (seen := seen) (head := hd) (st := st') h))
    have hRb := fun h hg => HRJ.out.trans (congrArg (chAdd (pre.map ChX.pl)) (chRd_bad (n := n) (kind := kind) (most := most) (f := f) (i := i) (seen := seen) (head := hd) (st := st') h hg))
    have hRl := fun h hg hx => HRJ.out.trans (congrArg (chAdd (pre.map ChX.pl)) (chRd_last (n := n) (kind := kind) (most := most) (f := f) (i := i) (seen := seen) (head := hd) (st := st') h hg hx))
    have hRn := fun h hg hx => HRJ.out.trans (congrArg (chAdd (pre.map ChX.pl)) (chRd_next (n := n) (kind := kind) (most := most) (f := f) (i := i) (seen := seen) (head := hd) (st := st') h hg hx))
    have HRE := Lib.hid hRe
    have HRB := Lib.hid hRb
    have HRL := Lib.hid hRl
    have HRN := Lib.hid hRn
    clear hpi hRe hRb hRl hRn HRJ
    generalize plGetB n st' hd = B at *
    generalize plGet n st' hd = G at *
    obtain ⟨⟨so, gc⟩, st2⟩ := G
    simp only at HG HPI HRE HRB HRL HRN
    gi_wp2_with fail
    refine in_call HG.out ?_
    rintro e w2 ⟨A2, c2, rfl, hrd, hnew, hpo2, hkp2, hbc, hcm⟩
    have HM2 := Lib.hid (HM.out.step hpo2 hkp2)
    have HB2 := Lib.hid (And.intro hrd (And.intro hbc hcm))
    clear hrd hnew hpo2 hkp2 hbc hcm HG HM c0 c1
    by_cases hgc : gc = 0
    case neg =>
      have hgb : (gc != 0) = true := by simpa using hgc
      have HQ := Lib.hid ((HRE.out hgc).trans (chAdd_err _ _ _))
      have c3 := HM2.out.it.e.cell
      have f3 := HM2.out.it.c.frozen
      have c4 := HM2.out.it.c.cell
      have HM3 := Lib.hid (HM2.out.setC gc)
      clear hgc
      gi_wp2
      refine bodyPost_ret (results_none rfl _ _ _) rfl ?_
      exact HM3.out.done (HR.out.symm.trans HQ.out) _
    subst hgc
    clear HRE
    obtain ⟨w3, hup, hm3, ht3⟩ := map_update Tryd.underlying47 Tryd.underlying3 HM2.out.it.s hd (.int .i64 1)
    rw [chMp_put _ _ HF.out.2.2.2.2.2.2.1] at hm3
    have HM3 := Lib.hid (HM2.out.setS hm3 ht3)
    have ch := HM2.out.it.h.cell
    obtain ⟨sn, hsn⟩ : ∃ sn, sn = seen ++ [hd] := ⟨_, rfl⟩
    rw [← hsn] at HM3 HRB HRL HRN
    have HSN := Lib.hid hsn
    have hno := HPI.out.2.2 rfl
    have HSF := Lib.hid (show sn.Nodup ∧ sn.length = i + 1 ∧ (∀ x ∈ sn, ¬ pgOut n x) from by
      obtain ⟨-, -, -, q4, q5, q6, q7, -⟩ := HF.out
      refine ⟨?_, by rw [hsn, List.length_append, q5]; rfl, fun x hx => ?_⟩
      · rw [hsn, List.nodup_append]
        refine ⟨q4, by simp, ?_⟩
        intro a ha b hb
        simp only [List.mem_singleton] at hb
        subst hb
        exact fun e => q7 (e ▸ ha)
      · rw [hsn] at hx
        rcases List.mem_append.1 hx with h | h
        · exact q6 x h
        · simp only [List.mem_singleton] at h; subst h; exact hno)
    have HLN := Lib.hid (show i + 1 ≤ n / 8 from by
      rw [← HSF.out.2.1]
      exact keys_len _ sn HSF.out.1 (fun x hx => by have := HSF.out.2.2 x hx; unfold pgOut at this; omega))
    have HRB3 := Lib.hid (show Rd w3 A2 B from by
      have hx := HB2.out.1
      by_cases hB : B = []
      · subst hB; exact Rd.nil _ _
      · refine ht3.rd hx (fun ad ha e => ?_)
        have h1 := HM2.out.it.s
        obtain ⟨es, clock, q1, -⟩ := h1
        obtain ⟨b0, o0, e0, -, hc⟩ := Rd.form hx (List.length_pos_iff.2 hB)
        rw [ha] at e0; cases e0
        have := hc 0 (List.length_pos_iff.2 hB)
        simp only at e
        subst e
        simp [World.cell?, q1] at this)
    have HN8 := Lib.hid (show n ≤ 32768 from by obtain ⟨F, hD, -⟩ := HM2.out.po.dsk; exact hD.ok.n2)
    clear hsn hm3 ht3 HM2 hno
    have HC := Lib.hid (pg_Read B A2 c2 w3 (by have := HPI.out.2.1; omega) HB2.out.2.1 HB2.out.2.2 HRB3.out)
    have HGOOD := Lib.hid (show chGood kind i most sn B ↔ ((pgR B).2 = 0 ∧ (pgR B).1.1 = kind ∧ (pgR B).1.2.1 = BitVec.ofNat 32 i ∧ (i : Int) < most ∧
      chLn (pgR B).1.2.2 ≤ 4074 ∧ (chNx (pgR B).1.2.2 ≠ 0 → chLn (pgR B).1.2.2 = 4074) ∧ ¬ (chNx (pgR B).1.2.2 = 0 ∧ chLn (pgR B).1.2.2 = 0 ∧ 0 < i) ∧
      chNx (pgR B).1.2.2 ≠ 1 ∧ ((chNx (pgR B).1.2.2 : Nat) : Int) ∉ sn ∧ ∀ x ∈ chRest (pgR B).1.2.2, x = 0#8) from Iff.rfl)
    have HBD := Lib.hid (pgR_body (b := B))
    generalize pgR B = q at *
    obtain ⟨⟨qk, qn, body⟩, qe⟩ := q
    simp only at HC HGOOD HBD HRL HRN
    gi_wp2_with fail
    refine in_call HC.out ?_
    rintro e w4 ⟨A4, c4, rfl, hrd, hbc, hcm, hb⟩
    simp only at hrd hbc
    have HM4 := Lib.hid (HM3.out.fb hb)
    have HB4 := Lib.hid (And.intro hrd (And.intro hbc hcm))
    clear hrd hbc hcm hb HM3 HC HB2 HRB3 ch hup
    have HX := Lib.hid (heap_alloc_new w4 (.cells #[.int .i64 qk, .int .u32 (nb qn), .slice A4 body.length c4] 45))
    gi_upto_region 8 with fail
    obtain ⟨w5, hw5⟩ : ∃ w5 : World, w5 = w4.alloc (.cells #[.int .i64 qk, .int .u32 (nb qn), .slice A4 body.length c4] 45) := ⟨_, rfl⟩
    obtain ⟨gx, hgx⟩ : ∃ gx, gx = w4.heap.size := ⟨_, rfl⟩
    rw [← hw5, ← hgx] at HX
    rw [← hw5, ← hgx]
    obtain ⟨x0, x1, x2⟩ := prow3 HX.out
    have HF5 := Lib.hid (show FB w4 w5 from by rw [hw5]; exact (FB.refl w4).alloc _)
    have HM5 := Lib.hid (HM4.out.fb HF5.out)
    have ck := HM5.out.it.k.cell
    have cm := HM5.out.it.m.cell
    have hw32 := u32_wrap i
    obtain ⟨z, hz⟩ : ∃ z, z = BitVec.ofNat 32 i := ⟨_, rfl⟩
    rw [← hz] at hw32 HGOOD
    clear hw5 hgx hz HM4
    by_cases h1 : qe = 0
    case neg =>
      have h1b : (qe != 0) = true := by simpa using h1
      have HQ := Lib.hid ((HRB.out trivial (fun h => h1 (HGOOD.out.1 h).1)).trans (chAdd_err _ _ _))
      have HM6 := Lib.hid (HM5.out.setC 4)
      have c3 := HM5.out.it.e.cell
      have f3 := HM5.out.it.c.frozen
      have c4 := HM5.out.it.c.cell
      gi_wp2
      refine bodyPost_ret (results_none rfl _ _ _) rfl ?_
      exact HM6.out.done (HR.out.symm.trans HQ.out) _
    subst h1
    by_cases h2 : qk = kind
    case neg =>
      have h2b : (qk != kind) = true := by simpa using h2
      have HQ := Lib.hid ((HRB.out trivial (fun h => h2 (HGOOD.out.1 h).2.1)).trans (chAdd_err _ _ _))
      have HM6 := Lib.hid (HM5.out.setC 4)
      have c3 := HM5.out.it.e.cell
      have f3 := HM5.out.it.c.frozen
      have c4 := HM5.out.it.c.cell
      gi_wp2
      refine bodyPost_ret (results_none rfl _ _ _) rfl ?_
      exact HM6.out.done (HR.out.symm.trans HQ.out) _
    subst h2
    by_cases h3 : qn = z
    case neg =>
      have h3b : (nb qn != nb z) = true := by rw [nb_bne]; simpa using h3
      have HQ := Lib.hid ((HRB.out trivial (fun h => h3 (HGOOD.out.1 h).2.2.1)).trans (chAdd_err _ _ _))
      have HM6 := Lib.hid (HM5.out.setC 4)
      have c3 := HM5.out.it.e.cell
      have f3 := HM5.out.it.c.frozen
      have c4 := HM5.out.it.c.cell
      gi_wp2
      refine bodyPost_ret (results_none rfl _ _ _) rfl ?_
      exact HM6.out.done (HR.out.symm.trans HQ.out) _
    subst h3
    by_cases h4 : (i : Int) < most
    case neg =>
      have h4b : ¬ (i : Int) < most := h4
      have h4c : most ≤ (i : Int) := by omega
      have HQ := Lib.hid ((HRB.out trivial (fun h => h4 (HGOOD.out.1 h).2.2.2.1)).trans (chAdd_err _ _ _))
      have HM6 := Lib.hid (HM5.out.setC 4)
      have c3 := HM5.out.it.e.cell
      have f3 := HM5.out.it.c.frozen
      have c4 := HM5.out.it.c.cell
      gi_wp2
      refine bodyPost_ret (results_none rfl _ _ _) rfl ?_
      exact HM6.out.done (HR.out.symm.trans HQ.out) _
    have h4b : ¬ most ≤ (i : Int) := by omega
    have HI4 := Lib.hid h4
    have hbl := HBD.out rfl
    have HBL := Lib.hid hbl
    have HG2 := Lib.hid (show chGood qk i most sn B ↔ chLn body ≤ 4074 ∧ (chNx body ≠ 0 → chLn body = 4074) ∧ ¬ (chNx body = 0 ∧ chLn body = 0 ∧ 0 < i) ∧ chNx body ≠ 1 ∧ ((chNx body : Nat) : Int) ∉ sn ∧ ∀ x ∈ chRest body, x = 0#8 from
      ⟨fun h => (HGOOD.out.1 h).2.2.2.2, fun h => HGOOD.out.2 ⟨rfl, rfl, rfl, h4, h⟩⟩)
    have HCO := Lib.hid (oct_New body A4 body.length c4 w5 rfl (by omega) (HF5.out.rd HB4.out.1))
    clear h4 hbl HBD HGOOD
    gi_wp2_with fail
    refine in_call HCO.out ?_
    rintro e w6 ⟨gr, rfl, hr, hb⟩
    have HR6 := Lib.hid hr
    have HF6 := Lib.hid (show FB w5 w6 from hb)
    clear hr hb HCO h4b x0 x1 x2 ck cm hw32
    have hc4 := oct_RWord_ok HR6.out 4 (by omega) (by have := HBL.out; omega) (by have := HBL.out; omega)
    rw [List.drop_zero] at hc4
    have HC4 := Lib.hid hc4
    clear hc4
    gi_wp2_with fail
    refine in_call HC4.out ?_
    rintro e w7 ⟨rfl, hr, ht⟩
    have HR7 := Lib.hid hr
    have HF7 := Lib.hid (HF6.out.tb ht HR6.out.bg)
    clear hr ht HC4 HF6 HR6
    have HC2 := Lib.hid (oct_RWord_ok HR7.out 2 (by omega) (by have := HBL.out; omega) (by have := HBL.out; omega))
    obtain ⟨nx, hnx⟩ : ∃ nx, nx = chNx body := ⟨_, rfl⟩
    have hx4 : nx < 4294967296 := by rw [hnx]; exact ch_xlq _ 4 (by rw [List.length_take, HBL.out]; rfl) (by omega)
    have hwx : IntKind.i64.wrap (nb (xword (body.take 4))) = (nx : Int) := by rw [hnx]; show IntKind.i64.wrap ((chNx body : Nat) : Int) = _; rw [IntKind.wrap_i64]; omega
    obtain ⟨ln, hln⟩ : ∃ ln, ln = chLn body := ⟨_, rfl⟩
    have hl4 : ln < 65536 := by rw [hln]; exact ch_xlq _ 2 (by rw [List.length_take, List.length_drop, HBL.out]; rfl) (by omega)
    have hwl : IntKind.i64.wrap (nb (xword ((body.drop (0 + 4)).take 2))) = (ln : Int) := by rw [hln]; show IntKind.i64.wrap ((chLn body : Nat) : Int) = _; rw [IntKind.wrap_i64]; omega
    have HBS := Lib.hid (show chBs body = (body.drop 6).take ln from by rw [hln]; rfl)
    have HRS := Lib.hid (show chRest body = body.drop (6 + ln) from by rw [hln]; rfl)
    rw [← hnx, ← hln] at HG2
    rw [← hnx] at HRL HRN
    have HNL := Lib.hid (And.intro hx4 hl4)
    clear hnx hln hx4 hl4
    gi_wp2_with fail
    refine in_call HC2.out ?_
    rintro e w8 ⟨rfl, hr, ht⟩
    have HR8 := Lib.hid hr
    have HF8 := Lib.hid (HF7.out.tb ht HR7.out.bg)
    have HM8 := Lib.hid (HM5.out.fb HF8.out)
    clear hr ht HC2 HF7 HR7 HX
    gi_upto_region 12 with fail
    clear hwx hwl
    by_cases h1 : ln ≤ 4074
    case neg =>
      have h1b : (4074 : Int) < (ln : Int) := by omega
      have HQ := Lib.hid ((HRB.out trivial (fun h => h1 (HG2.out.1 h).1)).trans (chAdd_err _ _ _))
      have HME := Lib.hid (HM8.out.setC 4)
      have c3 := HM8.out.it.e.cell
      have f3 := HM8.out.it.c.frozen
      have c4 := HM8.out.it.c.cell
      gi_wp2
      refine bodyPost_ret (results_none rfl _ _ _) rfl ?_
      exact HME.out.done (HR.out.symm.trans HQ.out) _
    have h1b : ¬ (4074 : Int) < (ln : Int) := by omega
    have HL1 := Lib.hid h1
    clear h1
    have hlk := map_lookup Tryd.underlying47 Tryd.underlying3 HM8.out.it.s (nx : Int) false (zeroI w8)
    rw [chMp_get] at hlk
    have HLK := Lib.hid hlk
    clear hlk
    obtain ⟨b40, hb40⟩ : ∃ b, b = ((ln : Int) != 4074) := ⟨_, rfl⟩
    by_cases hx : nx = 0
    · have hx1 : ((nx : Int) != 0) = false := by rw [bne_eq_false_iff_eq]; omega
      have hx2 : ((nx : Int) == 0) = true := by rw [beq_iff_eq]; omega
      have hx3 : ((nx : Int) == 1) = false := by rw [beq_eq_false_iff_ne]; omega
      have HX0 := Lib.hid hx
      clear hx b40 hb40
      by_cases hz : ln = 0 ∧ 0 < i
      case pos =>
        have hz1 : ((ln : Int) == 0) = true := by rw [beq_iff_eq]; omega
        have hz2 : (0 : Int) < (i : Int) := by omega
        have HZ := Lib.hid hz
        clear hz
        have HQ := Lib.hid ((HRB.out trivial (fun h => (HG2.out.1 h).2.2.1 ⟨HX0.out, HZ.out⟩)).trans (chAdd_err _ _ _))
        have HME := Lib.hid (HM8.out.setC 4)
        have c3 := HM8.out.it.e.cell
        have f3 := HM8.out.it.c.frozen
        have c4 := HM8.out.it.c.cell
        gi_wp2
        refine bodyPost_ret (results_none rfl _ _ _) rfl ?_
        exact HME.out.done (HR.out.symm.trans HQ.out) _
      have HNZ := Lib.hid hz
      by_cases hs : ((nx : Nat) : Int) ∈ sn
      case pos =>
        have hz3 : (((ln : Int) == 0) && decide ((0 : Int) < (i : Int))) = false := by
          rw [Bool.and_eq_false_iff]
          by_cases h : ln = 0
          · right; rw [decide_eq_false_iff_not]; intro h2; exact hz ⟨h, by omega⟩
          · left; rw [beq_eq_false_iff_ne]; omega
        clear hz
        by_cases hl : ln = 0
        · have hz1 : ((ln : Int) == 0) = true := by rw [beq_iff_eq]; omega
          have hz2 : ¬ (0 : Int) < (i : Int) := fun h2 => HNZ.out ⟨hl, by omega⟩
          clear hl hz3
          have hlk2 : (Instr.lookup 47 (.map (some gm)) (.int .i64 (nx : Int)) false).run Tryd.prog w8 = .ok (.int .i64 1) w8 := by rw [HLK.out, if_pos hs]; rfl
          have HQ := Lib.hid ((HRB.out trivial (fun h => (HG2.out.1 h).2.2.2.2.1 hs)).trans (chAdd_err _ _ _))
          have HME := Lib.hid (HM8.out.setC 4)
          have c3 := HM8.out.it.e.cell
          have f3 := HM8.out.it.c.frozen
          have c4 := HM8.out.it.c.cell
          gi_wp2
          refine bodyPost_ret (results_none rfl _ _ _) rfl ?_
          exact HME.out.done (HR.out.symm.trans HQ.out) _
        · have hz1 : ((ln : Int) == 0) = false := by rw [beq_eq_false_iff_ne]; omega
          clear hl hz3
          have hlk2 : (Instr.lookup 47 (.map (some gm)) (.int .i64 (nx : Int)) false).run Tryd.prog w8 = .ok (.int .i64 1) w8 := by rw [HLK.out, if_pos hs]; rfl
          have HQ := Lib.hid ((HRB.out trivial (fun h => (HG2.out.1 h).2.2.2.2.1 hs)).trans (chAdd_err _ _ _))
          have HME := Lib.hid (HM8.out.setC 4)
          have c3 := HM8.out.it.e.cell
          have f3 := HM8.out.it.c.frozen
          have c4 := HM8.out.it.c.cell
          gi_wp2
          refine bodyPost_ret (results_none rfl _ _ _) rfl ?_
          exact HME.out.done (HR.out.symm.trans HQ.out) _
      have hll : ln = 0 ∨ ln ≠ 0 := Decidable.em _
      rcases hll with hl | hl
      · have hz1 : ((ln : Int) == 0) = true := by rw [beq_iff_eq]; omega
        have hz2 : ¬ (0 : Int) < (i : Int) := fun h2 => HNZ.out ⟨hl, by omega⟩
        clear hl hz
        have hlk2 : (Instr.lookup 47 (.map (some gm)) (.int .i64 (nx : Int)) false).run Tryd.prog w8 = .ok (.int .i64 0) w8 := by rw [HLK.out, if_neg hs]; rfl
        have HNS := Lib.hid hs
        have HGD := Lib.hid (show (∀ x ∈ chRest body, x = 0#8) → chGood qk i most sn B from fun hz => HG2.out.2 ⟨HL1.out, (fun h => absurd HX0.out h), (fun h => HNZ.out h.2), (fun e => by have := HX0.out; omega), HNS.out, hz⟩)
        have HBAD := Lib.hid (show (¬ ∀ x ∈ chRest body, x = 0#8) → R = chAdd (pre.map ChX.pl) (([], 4), st2) from fun hz => HRB.out trivial (fun h => hz (HG2.out.1 h).2.2.2.2.2))
        have HLE := Lib.hid (show 6 + ln ≤ body.length from by rw [HBL.out]; have := HL1.out; omega)
        have HFX := Lib.hid (oct_Fixed_ok (k := 6) HR8.out (ln : Int) ln (by omega) HLE.out (by rw [HBL.out]; omega))
        clear hs
        gi_wp2_with fail
        refine in_call HFX.out ?_
        rintro e w9 ⟨v9, rfl, ho, hr, ht⟩
        obtain ⟨A9, c9, rfl, o1, o2, o3, o4⟩ := Own.form ho
        have hl9 : ((body.drop 6).take ln).length = ln := by rw [List.length_take, List.length_drop]; have := HLE.out; omega
        rw [← HBS.out] at o1 o3 hl9
        rw [← HBS.out, hl9]
        have HX9 := Lib.hid (And.intro o1 (And.intro o2 (And.intro o3 o4)))
        have HLB := Lib.hid hl9
        have HR9 := Lib.hid hr
        have HF9 := Lib.hid (HF8.out.tb ht HR8.out.bg)
        have HGR := Lib.hid HR8.out.lt
        have HS9 := Lib.hid (show w8.heap.size ≤ w9.heap.size from ht.le)
        have HKK := Lib.hid HM8.out.lt
        clear ho hr ht o1 o2 o3 o4 hl9 HFX hlk2 HLK HM8 HF8 HR8
        have HLF := Lib.hid (oct_Left HR9.out (by rw [HBL.out]; omega))
        obtain ⟨rl, hrl⟩ : ∃ rl : Nat, rl = body.length - (6 + ln) := ⟨_, rfl⟩
        have hz9 : (body.length : Int) - ((6 + ln : Nat) : Int) = (rl : Int) := by have := HLE.out; omega
        rw [hz9] at HLF
        have HRL2 := Lib.hid hrl
        clear hz9 hrl
        gi_wp2_with fail
        refine in_call HLF.out ?_
        rintro e w10 ⟨rfl, hb⟩
        have HR10 := Lib.hid (HR9.out.fb hb)
        have HF10 := Lib.hid (HF9.out.trans hb)
        have HX10 := Lib.hid (hb.rd HX9.out.2.2.1)
        have HS10 := Lib.hid (Nat.le_trans HS9.out hb.le)
        clear hb HLF HR9 HF9
        have HFX := Lib.hid (oct_Fixed_ok HR10.out (rl : Int) rl (by omega) (by have := HLE.out; have := HRL2.out; omega) (by rw [HBL.out]; omega))
        gi_wp2_with fail
        refine in_call HFX.out ?_
        rintro e w11 ⟨v11, rfl, ho, hr, ht⟩
        obtain ⟨A11, c11, rfl, o1, o2, o3, o4⟩ := Own.form ho
        have hl11 : (body.drop (6 + ln)).take rl = chRest body := by rw [HRS.out]; exact List.take_of_length_le (by rw [List.length_drop]; have := HRL2.out; omega)
        rw [hl11] at o1 o3
        rw [hl11]
        have HF11 := Lib.hid (HF10.out.tb ht HR10.out.bg)
        have HX11 := Lib.hid (ht.rd HX10.out (fun ad ha => by have h1 := HX9.out.2.2.2 ad ha; have h2 := HGR.out; omega))
        have HCT := Lib.hid (by_TrimB (chRest body) A11 c11 w11 (by rw [HRS.out, List.length_drop, HBL.out]; omega) o1 o2 o3)
        clear ho hr ht o1 o2 o3 o4 hl11 HFX HR10 HF10 HX10
        gi_wp2_with fail
        refine in_call HCT.out ?_
        rintro e w12 ⟨⟨A12, n12, c12, rfl, hn⟩, hb⟩
        have HM12 := Lib.hid (HM5.out.fb (HF11.out.trans hb))
        have HX12 := Lib.hid (hb.rd HX11.out)
        have HKL := Lib.hid (show ∀ ad, A9 = some ad → ad.block ∉ K' from fun ad ha hm => by have h1 := HX9.out.2.2.2 ad ha; have h2 := HKK.out _ hm; omega)
        clear hb HCT HF11 HX11 HM5
        by_cases hzr : ∀ x ∈ chRest body, x = 0#8
        case neg =>
          have hn0 : (0 : Int) < (n12 : Int) := by have : n12 ≠ 0 := fun e => hzr (hn.1 e); omega
          have HQ := Lib.hid ((HBAD.out hzr).trans (chAdd_err _ _ _))
          have HME := Lib.hid (HM12.out.setC 4)
          have c3 := HM12.out.it.e.cell
          have f3 := HM12.out.it.c.frozen
          have c4 := HM12.out.it.c.cell
          clear hn hzr
          gi_wp2
          refine bodyPost_ret (results_none rfl _ _ _) rfl ?_
          exact HME.out.done (HR.out.symm.trans HQ.out) _
        have hn0 : ¬ (0 : Int) < (n12 : Int) := by have : n12 = 0 := hn.2 hzr; omega
        have HGG := Lib.hid (HGD.out hzr)
        clear hn hzr
        obtain ⟨fn, tmps, assign, bdy, hy, hR⟩ := HY.out pre ⟨hd, A9, c9, chBs body⟩ K' w12 ⟨HX12.out, by show (chBs body).length ≤ _; rw [HLB.out]; exact HL1.out, HX9.out.1, HX9.out.2.1, HKL.out, by have := HF.out.1; have := HLN.out; omega, HF.out.2.2.2.2.2.2.2⟩ HM12.out.j
        rw [show ChX.enc ⟨hd, A9, c9, chBs body⟩ = #[.agg #[.int .i64 hd, .slice A9 ln c9]] from by unfold ChX.enc; simp only [HLB.out]] at hy
        have HRR := Lib.hid hR
        have ch := HM12.out.it.h.cell
        clear hR
        gi_wp2_with fail
        refine HRR.out.mono ?_
        rintro e W3 (⟨rfl, K3, htr, hj3⟩ | ⟨rfl, K3, htr, hjx3⟩)
        · have HM13 := Lib.hid (HM12.out.round htr hj3 (HJ.out _ _))
          have HQ := Lib.hid ((HRL.out trivial HGG.out HX0.out).trans (chAdd_last _ _ _ _))
          clear htr hj3 hy HRR ch
          gi_wp2
          refine bodyPost_ret (results_none rfl _ _ _) rfl ?_
          exact HM13.out.done (HR.out.symm.trans (HQ.out.trans (by rw [List.map_append]; rfl))) _
        · clear hy HRR ch
          gi_wp2
          refine bodyPost_ret (results_none rfl _ _ _) rfl ?_
          exact ⟨⟨_, rfl⟩, .inr ⟨_, _, trivial, hjx3⟩⟩
      · have hz1 : ((ln : Int) == 0) = false := by rw [beq_eq_false_iff_ne]; omega
        clear hl hz
        have hlk2 : (Instr.lookup 47 (.map (some gm)) (.int .i64 (nx : Int)) false).run Tryd.prog w8 = .ok (.int .i64 0) w8 := by rw [HLK.out, if_neg hs]; rfl
        have HNS := Lib.hid hs
        have HGD := Lib.hid (show (∀ x ∈ chRest body, x = 0#8) → chGood qk i most sn B from fun hz => HG2.out.2 ⟨HL1.out, (fun h => absurd HX0.out h), (fun h => HNZ.out h.2), (fun e => by have := HX0.out; omega), HNS.out, hz⟩)
        have HBAD := Lib.hid (show (¬ ∀ x ∈ chRest body, x = 0#8) → R = chAdd (pre.map ChX.pl) (([], 4), st2) from fun hz => HRB.out trivial (fun h => hz (HG2.out.1 h).2.2.2.2.2))
        have HLE := Lib.hid (show 6 + ln ≤ body.length from by rw [HBL.out]; have := HL1.out; omega)
        have HFX := Lib.hid (oct_Fixed_ok (k := 6) HR8.out (ln : Int) ln (by omega) HLE.out (by rw [HBL.out]; omega))
        clear hs
        gi_wp2_with fail
        refine in_call HFX.out ?_
        rintro e w9 ⟨v9, rfl, ho, hr, ht⟩
        obtain ⟨A9, c9, rfl, o1, o2, o3, o4⟩ := Own.form ho
        have hl9 : ((body.drop 6).take ln).length = ln := by rw [List.length_take, List.length_drop]; have := HLE.out; omega
        rw [← HBS.out] at o1 o3 hl9
        rw [← HBS.out, hl9]
        have HX9 := Lib.hid (And.intro o1 (And.intro o2 (And.intro o3 o4)))
        have HLB := Lib.hid hl9
        have HR9 := Lib.hid hr
        have HF9 := Lib.hid (HF8.out.tb ht HR8.out.bg)
        have HGR := Lib.hid HR8.out.lt
        have HS9 := Lib.hid (show w8.heap.size ≤ w9.heap.size from ht.le)
        have HKK := Lib.hid HM8.out.lt
        clear ho hr ht o1 o2 o3 o4 hl9 HFX hlk2 HLK HM8 HF8 HR8
        have HLF := Lib.hid (oct_Left HR9.out (by rw [HBL.out]; omega))
        obtain ⟨rl, hrl⟩ : ∃ rl : Nat, rl = body.length - (6 + ln) := ⟨_, rfl⟩
        have hz9 : (body.length : Int) - ((6 + ln : Nat) : Int) = (rl : Int) := by have := HLE.out; omega
        rw [hz9] at HLF
        have HRL2 := Lib.hid hrl
        clear hz9 hrl
        gi_wp2_with fail
        refine in_call HLF.out ?_
        rintro e w10 ⟨rfl, hb⟩
        have HR10 := Lib.hid (HR9.out.fb hb)
        have HF10 := Lib.hid (HF9.out.trans hb)
        have HX10 := Lib.hid (hb.rd HX9.out.2.2.1)
        have HS10 := Lib.hid (Nat.le_trans HS9.out hb.le)
        clear hb HLF HR9 HF9
        have HFX := Lib.hid (oct_Fixed_ok HR10.out (rl : Int) rl (by omega) (by have := HLE.out; have := HRL2.out; omega) (by rw [HBL.out]; omega))
        gi_wp2_with fail
        refine in_call HFX.out ?_
        rintro e w11 ⟨v11, rfl, ho, hr, ht⟩
        obtain ⟨A11, c11, rfl, o1, o2, o3, o4⟩ := Own.form ho
        have hl11 : (body.drop (6 + ln)).take rl = chRest body := by rw [HRS.out]; exact List.take_of_length_le (by rw [List.length_drop]; have := HRL2.out; omega)
        rw [hl11] at o1 o3
        rw [hl11]
        have HF11 := Lib.hid (HF10.out.tb ht HR10.out.bg)
        have HX11 := Lib.hid (ht.rd HX10.out (fun ad ha => by have h1 := HX9.out.2.2.2 ad ha; have h2 := HGR.out; omega))
        have HCT := Lib.hid (by_TrimB (chRest body) A11 c11 w11 (by rw [HRS.out, List.length_drop, HBL.out]; omega) o1 o2 o3)
        clear ho hr ht o1 o2 o3 o4 hl11 HFX HR10 HF10 HX10
        gi_wp2_with fail
        refine in_call HCT.out ?_
        rintro e w12 ⟨⟨A12, n12, c12, rfl, hn⟩, hb⟩
        have HM12 := Lib.hid (HM5.out.fb (HF11.out.trans hb))
        have HX12 := Lib.hid (hb.rd HX11.out)
        have HKL := Lib.hid (show ∀ ad, A9 = some ad → ad.block ∉ K' from fun ad ha hm => by have h1 := HX9.out.2.2.2 ad ha; have h2 := HKK.out _ hm; omega)
        clear hb HCT HF11 HX11 HM5
        by_cases hzr : ∀ x ∈ chRest body, x = 0#8
        case neg =>
          have hn0 : (0 : Int) < (n12 : Int) := by have : n12 ≠ 0 := fun e => hzr (hn.1 e); omega
          have HQ := Lib.hid ((HBAD.out hzr).trans (chAdd_err _ _ _))
          have HME := Lib.hid (HM12.out.setC 4)
          have c3 := HM12.out.it.e.cell
          have f3 := HM12.out.it.c.frozen
          have c4 := HM12.out.it.c.cell
          clear hn hzr
          gi_wp2
          refine bodyPost_ret (results_none rfl _ _ _) rfl ?_
          exact HME.out.done (HR.out.symm.trans HQ.out) _
        have hn0 : ¬ (0 : Int) < (n12 : Int) := by have : n12 = 0 := hn.2 hzr; omega
        have HGG := Lib.hid (HGD.out hzr)
        clear hn hzr
        obtain ⟨fn, tmps, assign, bdy, hy, hR⟩ := HY.out pre ⟨hd, A9, c9, chBs body⟩ K' w12 ⟨HX12.out, by show (chBs body).length ≤ _; rw [HLB.out]; exact HL1.out, HX9.out.1, HX9.out.2.1, HKL.out, by have := HF.out.1; have := HLN.out; omega, HF.out.2.2.2.2.2.2.2⟩ HM12.out.j
        rw [show ChX.enc ⟨hd, A9, c9, chBs body⟩ = #[.agg #[.int .i64 hd, .slice A9 ln c9]] from by unfold ChX.enc; simp only [HLB.out]] at hy
        have HRR := Lib.hid hR
        have ch := HM12.out.it.h.cell
        clear hR
        gi_wp2_with fail
        refine HRR.out.mono ?_
        rintro e W3 (⟨rfl, K3, htr, hj3⟩ | ⟨rfl, K3, htr, hjx3⟩)
        · have HM13 := Lib.hid (HM12.out.round htr hj3 (HJ.out _ _))
          have HQ := Lib.hid ((HRL.out trivial HGG.out HX0.out).trans (chAdd_last _ _ _ _))
          clear htr hj3 hy HRR ch
          gi_wp2
          refine bodyPost_ret (results_none rfl _ _ _) rfl ?_
          exact HM13.out.done (HR.out.symm.trans (HQ.out.trans (by rw [List.map_append]; rfl))) _
        · clear hy HRR ch
          gi_wp2
          refine bodyPost_ret (results_none rfl _ _ _) rfl ?_
          exact ⟨⟨_, rfl⟩, .inr ⟨_, _, trivial, hjx3⟩⟩
    · have hx1 : ((nx : Int) != 0) = true := by rw [bne_iff_ne]; omega
      have hx2 : ((nx : Int) == 0) = false := by rw [beq_eq_false_iff_ne]; omega
      have HX0 := Lib.hid hx
      clear hx b40 hb40
      by_cases hl : ln = 4074
      case neg =>
        have hl1 : ((ln : Int) != 4074) = true := by rw [bne_iff_ne]; omega
        have HL := Lib.hid hl
        clear hl
        have HQ := Lib.hid ((HRB.out trivial (fun h => HL.out ((HG2.out.1 h).2.1 HX0.out))).trans (chAdd_err _ _ _))
        have HME := Lib.hid (HM8.out.setC 4)
        have c3 := HM8.out.it.e.cell
        have f3 := HM8.out.it.c.frozen
        have c4 := HM8.out.it.c.cell
        gi_wp2
        refine bodyPost_ret (results_none rfl _ _ _) rfl ?_
        exact HME.out.done (HR.out.symm.trans HQ.out) _
      have hl1 : ((ln : Int) != 4074) = false := by rw [bne_eq_false_iff_eq]; omega
      have HL := Lib.hid hl
      clear hl
      by_cases ho : nx = 1
      case pos =>
        have ho1 : ((nx : Int) == 1) = true := by rw [beq_iff_eq]; omega
        have HO := Lib.hid ho
        clear ho
        have HQ := Lib.hid ((HRB.out trivial (fun h => (HG2.out.1 h).2.2.2.1 HO.out)).trans (chAdd_err _ _ _))
        have HME := Lib.hid (HM8.out.setC 4)
        have c3 := HM8.out.it.e.cell
        have f3 := HM8.out.it.c.frozen
        have c4 := HM8.out.it.c.cell
        gi_wp2
        refine bodyPost_ret (results_none rfl _ _ _) rfl ?_
        exact HME.out.done (HR.out.symm.trans HQ.out) _
      have ho1 : ((nx : Int) == 1) = false := by rw [beq_eq_false_iff_ne]; omega
      have HO := Lib.hid ho
      clear ho
      by_cases hs : ((nx : Nat) : Int) ∈ sn
      case pos =>
        have hlk2 : (Instr.lookup 47 (.map (some gm)) (.int .i64 (nx : Int)) false).run Tryd.prog w8 = .ok (.int .i64 1) w8 := by rw [HLK.out, if_pos hs]; rfl
        have HQ := Lib.hid ((HRB.out trivial (fun h => (HG2.out.1 h).2.2.2.2.1 hs)).trans (chAdd_err _ _ _))
        have HME := Lib.hid (HM8.out.setC 4)
        have c3 := HM8.out.it.e.cell
        have f3 := HM8.out.it.c.frozen
        have c4 := HM8.out.it.c.cell
        gi_wp2
        refine bodyPost_ret (results_none rfl _ _ _) rfl ?_
        exact HME.out.done (HR.out.symm.trans HQ.out) _
      have hlk2 : (Instr.lookup 47 (.map (some gm)) (.int .i64 (nx : Int)) false).run Tryd.prog w8 = .ok (.int .i64 0) w8 := by rw [HLK.out, if_neg hs]; rfl
      have HNS := Lib.hid hs
      have HGD := Lib.hid (show (∀ x ∈ chRest body, x = 0#8) → chGood qk i most sn B from fun hz => HG2.out.2 ⟨HL1.out, (fun _ => HL.out), (fun h => HX0.out h.1), HO.out, HNS.out, hz⟩)
      have HBAD := Lib.hid (show (¬ ∀ x ∈ chRest body, x = 0#8) → R = chAdd (pre.map ChX.pl) (([], 4), st2) from fun hz => HRB.out trivial (fun h => hz (HG2.out.1 h).2.2.2.2.2))
      have HLE := Lib.hid (show 6 + ln ≤ body.length from by rw [HBL.out]; have := HL1.out; omega)
      have HFX := Lib.hid (oct_Fixed_ok (k := 6) HR8.out (ln : Int) ln (by omega) HLE.out (by rw [HBL.out]; omega))
      clear hs
      gi_wp2_with fail
      refine in_call HFX.out ?_
      rintro e w9 ⟨v9, rfl, ho, hr, ht⟩
      obtain ⟨A9, c9, rfl, o1, o2, o3, o4⟩ := Own.form ho
      have hl9 : ((body.drop 6).take ln).length = ln := by rw [List.length_take, List.length_drop]; have := HLE.out; omega
      rw [← HBS.out] at o1 o3 hl9
      rw [← HBS.out, hl9]
      have HX9 := Lib.hid (And.intro o1 (And.intro o2 (And.intro o3 o4)))
      have HLB := Lib.hid hl9
      have HR9 := Lib.hid hr
      have HF9 := Lib.hid (HF8.out.tb ht HR8.out.bg)
      have HGR := Lib.hid HR8.out.lt
      have HS9 := Lib.hid (show w8.heap.size ≤ w9.heap.size from ht.le)
      have HKK := Lib.hid HM8.out.lt
      clear ho hr ht o1 o2 o3 o4 hl9 HFX hlk2 HLK HM8 HF8 HR8
      have HLF := Lib.hid (oct_Left HR9.out (by rw [HBL.out]; omega))
      obtain ⟨rl, hrl⟩ : ∃ rl : Nat, rl = body.length - (6 + ln) := ⟨_, rfl⟩
      have hz9 : (body.length : Int) - ((6 + ln : Nat) : Int) = (rl : Int) := by have := HLE.out; omega
      rw [hz9] at HLF
      have HRL2 := Lib.hid hrl
      clear hz9 hrl
      gi_wp2_with fail
      refine in_call HLF.out ?_
      rintro e w10 ⟨rfl, hb⟩
      have HR10 := Lib.hid (HR9.out.fb hb)
      have HF10 := Lib.hid (HF9.out.trans hb)
      have HX10 := Lib.hid (hb.rd HX9.out.2.2.1)
      have HS10 := Lib.hid (Nat.le_trans HS9.out hb.le)
      clear hb HLF HR9 HF9
      have HFX := Lib.hid (oct_Fixed_ok HR10.out (rl : Int) rl (by omega) (by have := HLE.out; have := HRL2.out; omega) (by rw [HBL.out]; omega))
      gi_wp2_with fail
      refine in_call HFX.out ?_
      rintro e w11 ⟨v11, rfl, ho, hr, ht⟩
      obtain ⟨A11, c11, rfl, o1, o2, o3, o4⟩ := Own.form ho
      have hl11 : (body.drop (6 + ln)).take rl = chRest body := by rw [HRS.out]; exact List.take_of_length_le (by rw [List.length_drop]; have := HRL2.out; omega)
      rw [hl11] at o1 o3
      rw [hl11]
      have HF11 := Lib.hid (HF10.out.tb ht HR10.out.bg)
      have HX11 := Lib.hid (ht.rd HX10.out (fun ad ha => by have h1 := HX9.out.2.2.2 ad ha; have h2 := HGR.out; omega))
      have HCT := Lib.hid (by_TrimB (chRest body) A11 c11 w11 (by rw [HRS.out, List.length_drop, HBL.out]; omega) o1 o2 o3)
      clear ho hr ht o1 o2 o3 o4 hl11 HFX HR10 HF10 HX10
      gi_wp2_with fail
      refine in_call HCT.out ?_
      rintro e w12 ⟨⟨A12, n12, c12, rfl, hn⟩, hb⟩
      have HM12 := Lib.hid (HM5.out.fb (HF11.out.trans hb))
      have HX12 := Lib.hid (hb.rd HX11.out)
      have HKL := Lib.hid (show ∀ ad, A9 = some ad → ad.block ∉ K' from fun ad ha hm => by have h1 := HX9.out.2.2.2 ad ha; have h2 := HKK.out _ hm; omega)
      clear hb HCT HF11 HX11 HM5
      by_cases hzr : ∀ x ∈ chRest body, x = 0#8
      case neg =>
        have hn0 : (0 : Int) < (n12 : Int) := by have : n12 ≠ 0 := fun e => hzr (hn.1 e); omega
        have HQ := Lib.hid ((HBAD.out hzr).trans (chAdd_err _ _ _))
        have HME := Lib.hid (HM12.out.setC 4)
        have c3 := HM12.out.it.e.cell
        have f3 := HM12.out.it.c.frozen
        have c4 := HM12.out.it.c.cell
        clear hn hzr
        gi_wp2
        refine bodyPost_ret (results_none rfl _ _ _) rfl ?_
        exact HME.out.done (HR.out.symm.trans HQ.out) _
      have hn0 : ¬ (0 : Int) < (n12 : Int) := by have : n12 = 0 := hn.2 hzr; omega
      have HGG := Lib.hid (HGD.out hzr)
      clear hn hzr
      obtain ⟨fn, tmps, assign, bdy, hy, hR⟩ := HY.out pre ⟨hd, A9, c9, chBs body⟩ K' w12 ⟨HX12.out, by show (chBs body).length ≤ _; rw [HLB.out]; exact HL1.out, HX9.out.1, HX9.out.2.1, HKL.out, by have := HF.out.1; have := HLN.out; omega, HF.out.2.2.2.2.2.2.2⟩ HM12.out.j
      rw [show ChX.enc ⟨hd, A9, c9, chBs body⟩ = #[.agg #[.int .i64 hd, .slice A9 ln c9]] from by unfold ChX.enc; simp only [HLB.out]] at hy
      have HRR := Lib.hid hR
      have ch := HM12.out.it.h.cell
      clear hR
      gi_wp2_with fail
      refine HRR.out.mono ?_
      rintro e W3 (⟨rfl, K3, htr, hj3⟩ | ⟨rfl, K3, htr, hjx3⟩)
      · have HM13 := Lib.hid (HM12.out.round htr hj3 (HJ.out _ _))
        have HQ := Lib.hid ((HRN.out trivial HGG.out HX0.out).trans (chAdd_next _ _ _))
        have ch3 := HM13.out.it.h.cell
        have fh3 := HM13.out.it.h.frozen
        have HM14 := Lib.hid (HM13.out.setH (nx : Int))
        have hwk : IntKind.i64.wrap ((i : Int) + 1) = (i : Int) + 1 := by rw [IntKind.wrap_i64]; have := HI4.out; have := HMO.out; omega
        clear htr hj3 hy HRR ch
        gi_wp2
        go_roundw
        case rel => exact ⟨pre ++ [⟨hd, A9, c9, chBs body⟩], K3, sn, (nx : Int), st2, i + 1, by go_num, HM14, Lib.hid ⟨by rw [List.length_append, HF.out.1]; rfl, by have := HI4.out; omega, HPI.out.1, HSF.out.1, HSF.out.2.1, HSF.out.2.2, HNS.out, fun y hy => by
            rcases List.mem_append.1 hy with h | h
            · exact HF.out.2.2.2.2.2.2.2 y h
            · simp only [List.mem_singleton] at h; subst h; show (chBs body).length ≤ _; rw [HLB.out]; exact HL1.out⟩, Lib.hid (by rw [HQ.out, show most.toNat + 1 - (i + 1) = f from by have := HFU.out; have := HI4.out; omega, List.map_append]; rfl)⟩
        case measure => (show chFuel most - ((i : Int) + 1).toNat < chFuel most - ((i : Int)).toNat; unfold chFuel; have := HI4.out; omega)
      · clear hy HRR ch
        gi_wp2
        refine bodyPost_ret (results_none rfl _ _ _) rfl ?_
        exact ⟨⟨_, rfl⟩, .inr ⟨_, _, trivial, hjx3⟩⟩
end Go.Proofs.YtoidlmhebnlnbaaDoor
