/- The walk through RootSafe. -/
import Derived.Test.YtihljjfnjclefaaMRta
import Derived.Test.YtihljjfnjclefaaMRtb
import Derived.Test.YtihljjfnjclefaaMRtc
import Derived.Test.YtihljjfnjclefaaMRtd
import Derived.Test.YtihljjfnjclefaaMRte
import Derived.Test.YtihljjfnjclefaaMRtf
import Derived.Test.YtihljjfnjclefaaMRtg
import Derived.Test.YtihljjfnjclefaaMRth
import Derived.Test.YtihljjfnjclefaaMRti
import Derived.Test.YtihljjfnjclefaaMRtj
import Derived.Test.YtihljjfnjclefaaMRtk
import Derived.Test.YtihljjfnjclefaaMRtl
import Derived.Test.YtihljjfnjclefaaMRootSafea
import Derived.Test.YtihljjfnjclefaaMRootSafeb
import Derived.Test.YtihljjfnjclefaaMRootSafec
set_option linter.unusedVariables false
set_option linter.unusedSimpArgs false
namespace Go.Proofs.Ytihljjfnjclefaa
open Go.ChangeShapes Go.WideShapes Go.ChangeAt Go.RowKit
attribute [local go_sem] nb_nonneg nb_lt8 nb_lt64
set_option maxRecDepth 100000

theorem rs_keep {w W : World} (h : FB w W) {g : Nat} {o : Obj} (hg : w.heap[g]? = some o) : W.heap[g]? = some o := (h.block _ (Array.getElem?_eq_some_iff.1 hg).1).trans hg
theorem rs_keepS {F : List Nat} {w W : World} (h : TS F w W) {g : Nat} {o : Obj} (hn : g ∉ F) (hg : w.heap[g]? = some o) : W.heap[g]? = some o := (h.block _ (Array.getElem?_eq_some_iff.1 hg).1 hn).trans hg
theorem rs_box (w : World) (a b c : Rt) (x y z : Value) : ∃ W, W = (((w.alloc (.cells (rtCs a) 29)).alloc (.cells (rtCs b) 29)).alloc (.cells (rtCs c) 29)).alloc (.cells #[x, y, z] 52) ∧
    FB w W ∧ W.heap[w.heap.size]? = some (.cells (rtCs a) 29 (0, 0)) ∧ W.heap[w.heap.size + 1]? = some (.cells (rtCs b) 29 (0, 0)) ∧ W.heap[w.heap.size + 1 + 1]? = some (.cells (rtCs c) 29 (0, 0)) ∧ W.heap[w.heap.size + 1 + 1 + 1]? = some (.cells #[x, y, z] 52 (0, 0)) := by
  refine ⟨_, rfl, ?_⟩
  have e1 := heap_alloc_new w (.cells (rtCs a) 29)
  have f1 := (FB.refl w).alloc (.cells (rtCs a) 29)
  have s1 : (w.alloc (.cells (rtCs a) 29)).heap.size = w.heap.size + 1 := by simp
  generalize w.alloc (.cells (rtCs a) 29) = W1 at *
  have e2 := heap_alloc_new W1 (.cells (rtCs b) 29)
  have f2 := (FB.refl W1).alloc (.cells (rtCs b) 29)
  have s2 : (W1.alloc (.cells (rtCs b) 29)).heap.size = W1.heap.size + 1 := by simp
  generalize W1.alloc (.cells (rtCs b) 29) = W2 at *
  have e3 := heap_alloc_new W2 (.cells (rtCs c) 29)
  have f3 := (FB.refl W2).alloc (.cells (rtCs c) 29)
  have s3 : (W2.alloc (.cells (rtCs c) 29)).heap.size = W2.heap.size + 1 := by simp
  generalize W2.alloc (.cells (rtCs c) 29) = W3 at *
  have e4 := heap_alloc_new W3 (.cells #[x, y, z] 52)
  have f4 := (FB.refl W3).alloc (.cells #[x, y, z] 52)
  rw [s1] at e2
  rw [s2, s1] at e3
  rw [s3, s2, s1] at e4
  exact ⟨((f1.trans f2).trans f3).trans f4, rs_keep ((f2.trans f3).trans f4) e1, rs_keep (f3.trans f4) e2, rs_keep f4 e3, e4⟩
/-- The four boxes of the call. -/
structure RsR (w W : World) (ga gb gc gk : Nat) (ra rb rc : Rt) (x y z : Value) : Prop where
  fb : FB w W
  a : W.heap[ga]? = some (.cells (rtCs ra) 29 (0, 0))
  b : W.heap[gb]? = some (.cells (rtCs rb) 29 (0, 0))
  c : W.heap[gc]? = some (.cells (rtCs rc) 29 (0, 0))
  k : W.heap[gk]? = some (.cells #[x, y, z] 52 (0, 0))
def RsN (w : World) (F : List Nat) (ga gb gc gk : Nat) : Prop := ∀ x ∈ F, w.heap.size ≤ x ∧ ga ≠ x ∧ gb ≠ x ∧ gc ≠ x ∧ gk ≠ x
theorem RsR.keep {w W W' : World} {ga gb gc gk : Nat} {ra rb rc : Rt} {x y z : Value} (h : RsR w W ga gb gc gk ra rb rc x y z) (k : FB W W') : RsR w W' ga gb gc gk ra rb rc x y z := ⟨h.fb.trans k, rs_keep k h.a, rs_keep k h.b, rs_keep k h.c, rs_keep k h.k⟩
theorem RsR.ts {w W W' : World} {F : List Nat} {ga gb gc gk : Nat} {ra rb rc : Rt} {x y z : Value} (h : RsR w W ga gb gc gk ra rb rc x y z) (hn : RsN w F ga gb gc gk) (k : TS F W W') : RsR w W' ga gb gc gk ra rb rc x y z :=
  ⟨h.fb.ts k (fun x hx => (hn x hx).1), rs_keepS k (fun hm => (hn _ hm).2.1 rfl) h.a, rs_keepS k (fun hm => (hn _ hm).2.2.1 rfl) h.b, rs_keepS k (fun hm => (hn _ hm).2.2.2.1 rfl) h.c, rs_keepS k (fun hm => (hn _ hm).2.2.2.2 rfl) h.k⟩
theorem RsR.new {w W : World} {ga gb gc gk : Nat} {ra rb rc : Rt} {x y z : Value} (h : RsR w W ga gb gc gk ra rb rc x y z) {q : Nat} (hq : W.heap.size ≤ q) : w.heap.size ≤ q ∧ ga ≠ q ∧ gb ≠ q ∧ gc ≠ q ∧ gk ≠ q := by
  have h1 := (Array.getElem?_eq_some_iff.1 h.a).1
  have h2 := (Array.getElem?_eq_some_iff.1 h.b).1
  have h3 := (Array.getElem?_eq_some_iff.1 h.c).1
  have h4 := (Array.getElem?_eq_some_iff.1 h.k).1
  have h5 := h.fb.le
  omega
theorem RsR.res {w W W' : World} {F : List Nat} {g n : Nat} {D : DiskSt} {ga gb gc gk : Nat} {ra rb rc : Rt} {x y z : Value} (h : RsR w W ga gb gc gk ra rb rc x y z) (hn : RsN w F ga gb gc gk) (k : DskRes W F g n D W') :
    ∃ F', Dsk W' F' g n D ∧ RsR w W' ga gb gc gk ra rb rc x y z ∧ RsN w F' ga gb gc gk := by
  obtain ⟨F', h1, h2, h3⟩ := k
  exact ⟨F', h2, h.ts hn h3, fun q hq => (h1 q hq).elim (hn q) (fun hx => h.new hx)⟩
def rtSet (r : Rt) (e : BitVec 64) : Rt := ⟨e, 8#64, r.T, r.S, r.L, r.a, r.b, r.c, r.d⟩
theorem rs_set {w : World} {g : Nat} {r : Rt} (e : BitVec 64) (h : w.heap[g]? = some (.cells (rtCs r) 29 (0, 0))) : ((w.setCell ⟨g, 0, none⟩ (.int .u64 (nb e))).setCell ⟨g, 1, none⟩ (.int .u64 8)).heap[g]? = some (.cells (rtCs (rtSet r e)) 29 (0, 0)) := by
  rw [heap_setCell_same _ g 1 _ _ _ (heap_setCell_same w g 0 _ _ _ h)]; rfl
theorem rs_other {w : World} {g k : Nat} {o : Obj} (i : Nat) (v : Value) (h : w.heap[k]? = some o) (hne : k ≠ g) : (w.setCell ⟨g, i, none⟩ v).heap[k]? = some o := (heap_setCell_other w ⟨g, i, none⟩ k v hne).trans h
set_option maxHeartbeats 4000000 in
theorem rootSafe_walk (a b c : Rt) (ep : BitVec 64) (KA : Option Addr) (kc : Nat) (ks : List Bool) (T Y : Int) (w : World) (hkl : ks.length ≤ kc) (hkm : kc ≤ maxLen) (hkr : RdV w KA (ks.map .bool)) (hT : -9223372036854775808 ≤ T ∧ T ≤ 9223372036854775807) (hY : -9223372036854775808 ≤ Y ∧ Y ≤ 9223372036854775807) :
    Calls Try.prog 8 #[rtV a, rtV b, rtV c, .int .u64 (nb ep), .agg #[.slice KA ks.length kc, .int .i64 T, .int .i64 Y]] w fun e w' => e = .returned (.bool true) ∧ Below w.heap.size w w' := by
  obtain ⟨W1, hW1, hf, h1, h2, h3, h4⟩ := rs_box w a b c (.slice KA ks.length kc) (.int .i64 T) (.int .i64 Y)
  have HF1 := Lib.hid hf
  have GA1 := Lib.hid h1
  have GB1 := Lib.hid h2
  have GC1 := Lib.hid h3
  have GK1 := Lib.hid h4
  have HW1 := Lib.hid hW1
  have HKR := Lib.hid hkr
  have HKC := Lib.hid (And.intro hkl hkm)
  clear hf h1 h2 h3 h4 hW1 hkr hkl hkm hT hY
  unfold rtV
  go_enter Try.func8, Try.ntmps8
  go_upto_region 1 with fail
  rw [← HW1.out]
  clear HW1
  obtain ⟨ga, hga⟩ : ∃ ga, ga = w.heap.size := ⟨_, rfl⟩
  obtain ⟨gb, hgb⟩ : ∃ gb, gb = w.heap.size + 1 := ⟨_, rfl⟩
  obtain ⟨gc, hgc⟩ : ∃ gc, gc = w.heap.size + 1 + 1 := ⟨_, rfl⟩
  obtain ⟨gk, hgk⟩ : ∃ gk, gk = w.heap.size + 1 + 1 + 1 := ⟨_, rfl⟩
  rw [← hgk, ← hgc, ← hgb, ← hga]
  rw [← hgk] at GK1
  rw [← hgc] at GC1
  rw [← hgb] at GB1
  rw [← hga] at GA1
  have HGS := Lib.hid (show w.heap.size ≤ ga ∧ w.heap.size ≤ gb ∧ w.heap.size ≤ gc ∧ w.heap.size ≤ gk ∧ ga ≠ gb ∧ ga ≠ gc ∧ gb ≠ gc ∧ ga ≠ gk ∧ gb ≠ gk ∧ gc ≠ gk from by omega)
  clear hga hgb hgc hgk
  go_wp2_with fail
  refine (rt_lives _).mono ?_
  rintro e w2 ⟨rfl, hb⟩
  have HF2 := Lib.hid (HF1.out.trans hb)
  have GA2 := Lib.hid (rs_keep hb GA1.out)
  have GB2 := Lib.hid (rs_keep hb GB1.out)
  have GC2 := Lib.hid (rs_keep hb GC1.out)
  have GK2 := Lib.hid (rs_keep hb GK1.out)
  clear hb HF1 GA1 GB1 GC1 GK1
  have qk := row3 GK2.out
  go_wp2_with fail
  refine (kit_LightCrash KA ks.length kc T Y 100 _).mono ?_
  rintro e w3 ⟨rfl, hb⟩
  have HF3 := Lib.hid (HF2.out.trans hb)
  have GA3 := Lib.hid (rs_keep hb GA2.out)
  have GB3 := Lib.hid (rs_keep hb GB2.out)
  have GC3 := Lib.hid (rs_keep hb GC2.out)
  have GK3 := Lib.hid (rs_keep hb GK2.out)
  clear hb HF2 GA2 GB2 GC2 GK2 qk
  by_cases h100 : ((ks.length : Nat) : Int) ≤ 100
  rotate_left
  · rw [decide_eq_false h100]
    go_wp2
    go_ret
    exact ⟨rfl, HF3.out⟩
  rw [decide_eq_true h100]
  have HKL := Lib.hid (show ks.length ≤ 1000000000 from by omega)
  clear h100
  obtain ⟨ea, eb, ec, HEP⟩ : ∃ ea eb ec : BitVec 64, Hid (IntKind.u64.wrap (2 + (nb ep).tmod 1099511627776) = nb eb ∧ IntKind.u64.wrap (nb eb - 1) = nb ea ∧ IntKind.u64.wrap (nb eb + 1) = nb ec ∧ ea.toNat + 1 = eb.toNat ∧ eb.toNat + 1 = ec.toNat) := by
    have h0 := nb_nonneg ep
    obtain ⟨x, hx⟩ : ∃ x : Nat, nb ep % 1099511627776 = (x : Int) ∧ x < 1099511627776 := ⟨(nb ep % 1099511627776).toNat, by omega, by omega⟩
    refine ⟨BitVec.ofNat 64 (1 + x), BitVec.ofNat 64 (2 + x), BitVec.ofNat 64 (3 + x), ?_⟩
    have n1 : nb (BitVec.ofNat 64 (1 + x)) = ((1 + x : Nat) : Int) := nb_ofNat _ (by omega)
    have n2 : nb (BitVec.ofNat 64 (2 + x)) = ((2 + x : Nat) : Int) := nb_ofNat _ (by omega)
    have n3 : nb (BitVec.ofNat 64 (3 + x)) = ((3 + x : Nat) : Int) := nb_ofNat _ (by omega)
    refine Lib.hid ⟨?_, ?_, ?_, ?_, ?_⟩
    · rw [Int.tmod_eq_emod_of_nonneg h0, hx.1, n2, wrap_u64]; omega
    · rw [n1, n2, wrap_u64]; omega
    · rw [n3, n2, wrap_u64]; omega
    · unfold nb at n1 n2; omega
    · unfold nb at n2 n3; omega
  have hw0 := HEP.out.1
  have hw1 := HEP.out.2.1
  have hw2 := HEP.out.2.2.1
  have qa := prow9 GA3.out
  have qb := prow9 GB3.out
  have qc := prow9 GC3.out
  have fa0 := frozen_row _ GA3.out 0
  have fa1 := frozen_row _ GA3.out 1
  have fb0 := frozen_row _ GB3.out 0
  have fb1 := frozen_row _ GB3.out 1
  have fc0 := frozen_row _ GC3.out 0
  have fc1 := frozen_row _ GC3.out 1
  have n1 : ¬ ga = gb := HGS.out.2.2.2.2.1
  have n2 : ¬ ga = gc := HGS.out.2.2.2.2.2.1
  have n3 : ¬ gb = gc := HGS.out.2.2.2.2.2.2.1
  have n4 : ¬ gb = ga := fun h => n1 h.symm
  have n5 : ¬ gc = ga := fun h => n2 h.symm
  have n6 : ¬ gc = gb := fun h => n3 h.symm
  obtain ⟨W4, hW4⟩ : ∃ W4 : World, W4 = (((((w3.setCell ⟨ga, 0, none⟩ (.int .u64 (nb ea))).setCell ⟨gb, 0, none⟩ (.int .u64 (nb eb))).setCell ⟨gc, 0, none⟩ (.int .u64 (nb ec))).setCell ⟨ga, 1, none⟩ (.int .u64 8)).setCell ⟨gb, 1, none⟩ (.int .u64 8)).setCell ⟨gc, 1, none⟩ (.int .u64 8) := ⟨_, rfl⟩
  have HF4 := Lib.hid (show FB w W4 from by
    rw [hW4]
    have := HGS.out
    exact (((((HF3.out.set (p := ⟨ga, 0, none⟩) this.1 _).set (p := ⟨gb, 0, none⟩) this.2.1 _).set (p := ⟨gc, 0, none⟩) this.2.2.1 _).set (p := ⟨ga, 1, none⟩) this.1 _).set (p := ⟨gb, 1, none⟩) this.2.1 _).set (p := ⟨gc, 1, none⟩) this.2.2.1 _)
  have GA4 := Lib.hid (show W4.heap[ga]? = some (.cells (rtCs (rtSet a ea)) 29 (0, 0)) from by
    rw [hW4]
    exact rs_other 1 _ (rs_other 1 _ (heap_setCell_same _ ga 1 _ _ _ (rs_other 0 _ (rs_other 0 _ (heap_setCell_same w3 ga 0 _ _ _ GA3.out) n1) n2)) n1) n2)
  have GB4 := Lib.hid (show W4.heap[gb]? = some (.cells (rtCs (rtSet b eb)) 29 (0, 0)) from by
    rw [hW4]
    exact rs_other 1 _ (heap_setCell_same _ gb 1 _ _ _ (rs_other 1 _ (rs_other 0 _ (heap_setCell_same _ gb 0 _ _ _ (rs_other 0 _ GB3.out n4)) n3) n4)) n3)
  have GC4 := Lib.hid (show W4.heap[gc]? = some (.cells (rtCs (rtSet c ec)) 29 (0, 0)) from by
    rw [hW4]
    exact heap_setCell_same _ gc 1 _ _ _ (rs_other 1 _ (rs_other 1 _ (heap_setCell_same _ gc 0 _ _ _ (rs_other 0 _ (rs_other 0 _ GC3.out n5) n6)) n5) n6))
  have GK4 := Lib.hid (show W4.heap[gk]? = some (.cells #[.slice KA ks.length kc, .int .i64 T, .int .i64 Y] 52 (0, 0)) from by
    rw [hW4]
    have h := HGS.out.2.2.2.2.2.2.2
    exact rs_other 1 _ (rs_other 1 _ (rs_other 1 _ (rs_other 0 _ (rs_other 0 _ (rs_other 0 _ GK3.out h.1.symm) h.2.1.symm) h.2.2.symm) h.1.symm) h.2.1.symm) h.2.2.symm)
  have HW4 := Lib.hid hW4
  clear hW4
  go_upto_region 8 with fail
  rw [← HW4.out]
  clear HW4 hw0 hw1 hw2 qa qb qc fa0 fa1 fb0 fb1 fc0 fc1 n1 n2 n3 n4 n5 n6 HF3 GA3 GB3 GC3 GK3
  obtain ⟨ra, hra⟩ : ∃ ra, ra = rtSet a ea := ⟨_, rfl⟩
  obtain ⟨rb, hrb⟩ : ∃ rb, rb = rtSet b eb := ⟨_, rfl⟩
  obtain ⟨rc, hrc⟩ : ∃ rc, rc = rtSet c ec := ⟨_, rfl⟩
  have HPR := Lib.hid (show ra.P.toNat = 64 / 8 ∧ rb.P.toNat = 64 / 8 ∧ rc.P.toNat = 64 / 8 ∧ ra.E.toNat + 1 = rb.E.toNat ∧ rb.E.toNat + 1 = rc.E.toNat from by rw [hra, hrb, hrc]; exact ⟨rfl, rfl, rfl, HEP.out.2.2.2.1, HEP.out.2.2.2.2⟩)
  rw [← hra] at GA4
  rw [← hrb] at GB4
  rw [← hrc] at GC4
  clear hra hrb hrc HEP
  generalize IntKind.u64.wrap _ = junk at *
  go_wp2_with fail
  refine (dsk_New_ok 64 (by omega) (by omega) _).mono ?_
  rintro e w5 ⟨F, g, rfl, hd, hb, hF⟩
  have HS4 := Lib.hid (show RsR w W4 ga gb gc gk ra rb rc (.slice KA ks.length kc) (.int .i64 T) (.int .i64 Y) from ⟨HF4.out, GA4.out, GB4.out, GC4.out, GK4.out⟩)
  have HD5 := Lib.hid (show Dsk w5 F g 64 lv0 from hd)
  have HS5 := Lib.hid (HS4.out.keep hb)
  have HN := Lib.hid (show RsN w F ga gb gc gk from fun x hx => HS4.out.new (hF x hx))
  clear hd hb hF HF4 GA4 GB4 GC4 GK4 HS4
  have qq := prow9 HS5.out.a
  have hck := rt_Check ra w5
  cases hoa : rtOk ra with
  | false =>
    rw [show rtChk ra = 2 from by unfold rtChk; rw [hoa]; rfl] at hck
    unfold rtV rtCs at hck
    have HC := Lib.hid hck
    clear hck hoa
    go_wp2_with fail
    refine HC.out.mono ?_
    rintro e v ⟨rfl, hb⟩
    have HE := Lib.hid (HS5.out.fb.trans hb)
    clear hb
    go_wp2
    go_ret
    exact ⟨rfl, HE.out⟩
  | true =>
  rw [show rtChk ra = 0 from by unfold rtChk; rw [hoa]; rfl] at hck
  unfold rtV rtCs at hck
  have HC := Lib.hid hck
  have HOa := Lib.hid hoa
  clear hck hoa
  go_wp2_with fail
  refine HC.out.mono ?_
  rintro e w6 ⟨rfl, hb⟩
  have HS6 := Lib.hid (HS5.out.keep hb)
  have HD6 := Lib.hid (HD5.out.fb hb)
  clear hb HC HS5 HD5 qq
  have qq := prow9 HS6.out.b
  have hck := rt_Check rb w6
  cases hob : rtOk rb with
  | false =>
    rw [show rtChk rb = 2 from by unfold rtChk; rw [hob]; rfl] at hck
    unfold rtV rtCs at hck
    have HC := Lib.hid hck
    clear hck hob
    go_wp2_with fail
    refine HC.out.mono ?_
    rintro e v ⟨rfl, hb⟩
    have HE := Lib.hid (HS6.out.fb.trans hb)
    clear hb
    go_wp2
    go_ret
    exact ⟨rfl, HE.out⟩
  | true =>
  rw [show rtChk rb = 0 from by unfold rtChk; rw [hob]; rfl] at hck
  unfold rtV rtCs at hck
  have HC := Lib.hid hck
  have HOb := Lib.hid hob
  clear hck hob
  go_wp2_with fail
  refine HC.out.mono ?_
  rintro e w7 ⟨rfl, hb⟩
  have HS7 := Lib.hid (HS6.out.keep hb)
  have HD7 := Lib.hid (HD6.out.fb hb)
  clear hb HC HS6 HD6 qq
  have qq := prow9 HS7.out.c
  have hck := rt_Check rc w7
  cases hoc : rtOk rc with
  | false =>
    rw [show rtChk rc = 2 from by unfold rtChk; rw [hoc]; rfl] at hck
    unfold rtV rtCs at hck
    have HC := Lib.hid hck
    clear hck hoc
    go_wp2_with fail
    refine HC.out.mono ?_
    rintro e v ⟨rfl, hb⟩
    have HE := Lib.hid (HS7.out.fb.trans hb)
    clear hb
    go_wp2
    go_ret
    exact ⟨rfl, HE.out⟩
  | true =>
  rw [show rtChk rc = 0 from by unfold rtChk; rw [hoc]; rfl] at hck
  unfold rtV rtCs at hck
  have HC := Lib.hid hck
  have HOc := Lib.hid hoc
  clear hck hoc
  go_wp2_with fail
  refine HC.out.mono ?_
  rintro e w8 ⟨rfl, hb⟩
  have HS8 := Lib.hid (HS7.out.keep hb)
  have HD8 := Lib.hid (HD7.out.fb hb)
  clear hb HC HS7 HD7 qq
  have hs1 := rtSlot_next HPR.out.2.2.2.1
  have hs2 := rtSlot_next HPR.out.2.2.2.2
  obtain ⟨M1, hw1, hp1, ho1, -⟩ := rtW_good (D := lv0) (n := 64) (r := ra) rfl HOa.out HPR.out.1
  obtain ⟨M2, hw2, hp2, ho2, -⟩ := rtW_good (D := ⟨lv0.b, M1, none⟩) (n := 64) (r := rb) rfl HOb.out HPR.out.2.1
  have HSL := Lib.hid hs2
  have HV := Lib.hid hp2
  clear hs1 hs2 hp1 ho1 hp2 ho2
  have qq := prow9 HS8.out.a
  have hcw := rt_Write HD8.out ra
  rw [hw1] at hcw
  unfold rtV rtCs at hcw
  have HC := Lib.hid hcw
  clear hcw
  go_wp2_with fail
  refine HC.out.mono ?_
  rintro e w9 ⟨rfl, hk⟩
  obtain ⟨F9, hd, hs, hn⟩ := HS8.out.res HN.out hk
  have HS9 := Lib.hid hs
  have HD9 := Lib.hid hd
  replace HN := Lib.hid hn
  clear hk hd hs hn HC HS8 HD8 qq hw1
  have qq := prow9 HS9.out.b
  have hcw := rt_Write HD9.out rb
  rw [hw2] at hcw
  unfold rtV rtCs at hcw
  have HC := Lib.hid hcw
  clear hcw
  go_wp2_with fail
  refine HC.out.mono ?_
  rintro e w10 ⟨rfl, hk⟩
  obtain ⟨F10, hd, hs, hn⟩ := HS9.out.res HN.out hk
  have HS10 := Lib.hid hs
  have HD10 := Lib.hid hd
  replace HN := Lib.hid hn
  clear hk hd hs hn HC HS9 HD9 qq hw2
  have hcf := dsk_Flush HD10.out
  rw [sdFlush_ok rfl] at hcf
  have HC := Lib.hid hcf
  have HVF := Lib.hid ((pgAt_flush (k := rtSlot rb) HD10.out.ok HD10.out.nodupK (by have := rtSlot_lt rb; omega)).trans HV.out)
  clear hcf
  go_wp2_with fail
  refine HC.out.mono ?_
  rintro e w11 ⟨rfl, hd, ht⟩
  have HD11 := Lib.hid hd
  have HS11 := Lib.hid (HS10.out.ts HN.out ht)
  clear hd ht HC HS10 HD10 HV
  generalize flushB M2 lv0.b = B at *
  obtain ⟨M4, hw4, hp4, ho4, hm4⟩ := rtW_good (D := ⟨B, [], none⟩) (n := 64) (r := rc) rfl HOc.out HPR.out.2.2.1
  obtain rfl := hm4 rfl
  have hfn : rtFd ⟨B, pageM (rtSlot rc) (rtB rc).1 8 0, none⟩ 64 = ((rc, 0), ⟨B, pageM (rtSlot rc) (rtB rc).1 8 0, none⟩) := by
    rw [rtFd_clean rfl (by decide), fdPick_next (b := rb) (nx := rc) ?_ ?_ HPR.out.2.2.2.2]
    · rw [ho4 _ HSL.out.2.symm, HVF.out]; exact fdV_root HOb.out HPR.out.2.1
    · rw [hp4]; exact fdV_root HOc.out HPR.out.2.2.1
  have HFN := Lib.hid hfn
  have qq := prow9 HS11.out.c
  have hcw := rt_Write HD11.out rc
  rw [hw4] at hcw
  unfold rtV rtCs at hcw
  have HC := Lib.hid hcw
  clear hcw hw4 hp4 ho4 hm4 hfn
  go_wp2_with fail
  refine HC.out.mono ?_
  rintro e w12 ⟨rfl, hk⟩
  obtain ⟨F12, hd, hs, hn⟩ := HS11.out.res HN.out hk
  have HS12 := Lib.hid hs
  have HD12 := Lib.hid hd
  replace HN := Lib.hid hn
  clear hk hd hs hn HC HS11 HD11 qq
  have hcf := rt_Find HD12.out
  rw [HFN.out] at hcf
  unfold rtV rtCs at hcf
  have HC := Lib.hid hcf
  clear hcf
  go_wp2_with fail
  refine HC.out.mono ?_
  rintro e v ⟨rfl, hd, ht⟩
  have hs1 := HS12.out.ts HN.out ht
  obtain ⟨w13, hw⟩ : ∃ w13 : World, w13 = v.alloc (.cells (rtCs rc) 29) := ⟨_, rfl⟩
  have hbb : FB v w13 := by rw [hw]; exact (FB.refl v).alloc _
  have HS13 := Lib.hid (hs1.keep hbb)
  have HD13 := Lib.hid (hd.fb hbb)
  have HX13 := Lib.hid (show w13.heap[v.heap.size]? = some (.cells (rtCs rc) 29 (0, 0)) from by rw [hw]; exact heap_alloc_new v _)
  have HXN := Lib.hid (show w.heap.size ≤ v.heap.size ∧ v.heap.size ∉ F12 ∧ ga ≠ v.heap.size ∧ gb ≠ v.heap.size ∧ gc ≠ v.heap.size ∧ gk ≠ v.heap.size from ⟨hs1.fb.le, fun hm => by have := hd.lt _ hm; omega, (hs1.new (Nat.le_refl _)).2⟩)
  have HW := Lib.hid (show v.alloc (.cells #[.int .u64 (nb rc.E), .int .u64 (nb rc.P), .int .u64 (nb rc.T), .int .u64 (nb rc.S), .int .u64 (nb rc.L), .int .u64 (nb rc.a), .int .u64 (nb rc.b), .int .u64 (nb rc.c), .int .u64 (nb rc.d)] 29) = w13 from hw.symm)
  clear hd ht hs1 hw hbb HC HS12 HD12 HFN
  go_upto_region 14 with fail
  rw [HW.out]
  clear HW
  generalize v.heap.size = gx at *
  have HEC : ∀ w, (binOp .neq 29 (.agg #[.int .u64 (nb rc.E), .int .u64 (nb rc.P), .int .u64 (nb rc.T), .int .u64 (nb rc.S), .int .u64 (nb rc.L), .int .u64 (nb rc.a), .int .u64 (nb rc.b), .int .u64 (nb rc.c), .int .u64 (nb rc.d)]) (.agg #[.int .u64 (nb rc.E), .int .u64 (nb rc.P), .int .u64 (nb rc.T), .int .u64 (nb rc.S), .int .u64 (nb rc.L), .int .u64 (nb rc.a), .int .u64 (nb rc.b), .int .u64 (nb rc.c), .int .u64 (nb rc.d)])).run Try.prog w = .ok (.bool false) w := fun w => by have h := rt_neq rc rc w; rw [rtEq_self] at h; exact h
  have HEG : ∀ op x y xs ys w, (eqGuard op 29 x y (.agg xs) (.agg ys)).run Try.prog w = .ok () w := fun op x y xs ys w => rt_eqGuard op x y xs ys w
  have qx := prow9 HX13.out
  have qc := prow9 HS13.out.c
  have qk := row3 HS13.out.k
  go_wp2_with fail
  refine (kit_Crash KA ks kc T Y _ (HS13.out.fb.rdV HKR.out) HKL.out).mono ?_
  rintro e w14 ⟨KA2, kc2, rfl, hrk, hb, hka⟩
  have HS14 := Lib.hid (HS13.out.keep hb)
  have HD14 := Lib.hid (HD13.out.fb hb)
  have HX14 := Lib.hid (rs_keep hb HX13.out)
  have hcc := dsk_Crash HD14.out KA2 kc2 ks T Y hrk (fun ad ha hm => by have h1 := hka ad ha; have h2 := HD13.out.lt _ hm; omega)
  have HC := Lib.hid hcc
  have HOK := Lib.hid (And.intro HD14.out.ok HD14.out.nodupK)
  clear hrk hb hka hcc HS13 HD13 HX13 qx qc qk HEC
  go_wp2_with fail
  refine HC.out.mono ?_
  rintro e w15 ⟨rfl, hd, ht⟩
  have HS15 := Lib.hid (HS14.out.ts HN.out ht)
  have HD15 := Lib.hid hd
  have HX15 := Lib.hid (rs_keepS ht HXN.out.2.1 HX14.out)
  clear hd ht HC HS14 HD14 HX14
  have hvb : fdV (pgAt ⟨crashB (keptLen ks T Y) (pageM (rtSlot rc) (rtB rc).1 8 0) B (pageM (rtSlot rc) (rtB rc).1 8 0).length, [], none⟩ (rtSlot rb)) (rtSlot rb) 64 rb := by
    rw [pgAt_crash_other HOK.out.1.len HOK.out.1.M HOK.out.2 (keptLen_le _ _ _) (fun i p hp => .inl (pageM_other _ _ _ HSL.out.2.symm i p hp)), HVF.out]
    exact fdV_root HOb.out HPR.out.2.1
  generalize crashB (keptLen ks T Y) (pageM (rtSlot rc) (rtB rc).1 8 0) B (pageM (rtSlot rc) (rtB rc).1 8 0).length = B2 at *
  obtain ⟨x, hx1, hx2⟩ := fdPick_safe (D := ⟨B2, [], none⟩) hvb
  rw [← HSL.out.1] at hx2
  have HXX := Lib.hid hx2
  have hcf := rt_Find HD15.out
  rw [rtFd_clean rfl (by decide), hx1] at hcf
  unfold rtV rtCs at hcf
  have HC := Lib.hid hcf
  clear hcf hx1 hx2 hvb HOK HVF
  go_wp2_with fail
  refine HC.out.mono ?_
  rintro e v2 ⟨rfl, hd, ht⟩
  have hs1 := HS15.out.ts HN.out ht
  have hx1 := rs_keepS ht HXN.out.2.1 HX15.out
  have hst := rt_store rc x hx1
  obtain ⟨w16, hw⟩ : ∃ w16 : World, w16 = v2.setRow gx (rtCs x) := ⟨_, rfl⟩
  rw [← hw] at hst
  unfold rtV rtCs at hst
  have htx : TS [gx] v2 w16 := by rw [hw]; exact TS.tb (TB.setRow gx v2 (rtCs x)) (by simp)
  have HS16 := Lib.hid (hs1.ts (F := [gx]) (fun q hq => by simp at hq; subst hq; exact ⟨HXN.out.1, HXN.out.2.2⟩) htx)
  have HD16 := Lib.hid (hd.ts htx (fun q hq hm => by simp at hq; subst hq; exact HXN.out.2.1 hm))
  have HX16 := Lib.hid (show w16.heap[gx]? = some (.cells (rtCs x) 29 (0, 0)) from by rw [hw]; exact setRow_heap v2 gx _ (rtCs x) _ _ hx1)
  clear hd ht hs1 hx1 hw htx HC HS15 HD15 HX15
  go_upto_region 17 with (refine wpList_store_by rfl _ _ _ rfl _ hst ?_)
  clear hst
  have qx := prow9 HX16.out
  have qb := prow9 HS16.out.b
  have qc := prow9 HS16.out.c
  have HQB := rt_eql x rb
  have HQC := rt_eql x rc
  by_cases hxb : x = rb
  · rw [rtEq_iff.2 hxb] at HQB
    clear hxb HXX
    go_wp2
    go_ret
    exact ⟨rfl, HS16.out.fb⟩
  rw [rtEq_off hxb] at HQB
  by_cases hxc : x = rc
  · rw [rtEq_iff.2 hxc] at HQC
    clear hxc hxb HXX
    go_wp2
    go_ret
    exact ⟨rfl, HS16.out.fb⟩
  rw [rtEq_off hxc] at HQC
  have HRX := Lib.hid (show rtR (pgAt ⟨B2, [], none⟩ (rtSlot rc)) = (x, 0) from HXX.out.resolve_left hxb)
  clear hxb hxc HXX
  go_upto_region 21 with fail
  clear qx qb qc HQB HQC
  have HB2 := Lib.hid (show B2.length = 32768 from HD16.out.ok.len)
  have hsl := rtSlot_lt rc
  have hslt := rt_SlotU rc
  have HIM := Lib.hid (fun W (h : FB w16 W) => (dsk_Image (HD16.out.fb h)).mono (fun e w' k => show ∃ b o c, e = .returned (.slice (some ⟨b, o, none⟩) 32768 c) ∧ Rd w' (some ⟨b, o, none⟩) B2 ∧ 32768 ≤ c ∧ c ≤ maxLen ∧ FB W w' from by
    obtain ⟨A, c, h1, h2, h3, h4, -, h6⟩ := k
    obtain ⟨b, o, rfl, -, -⟩ := Rd.form h2 (by rw [HB2.out]; omega)
    exact ⟨b, o, c, h1, h2, h3, h4, h6⟩))
  unfold pgAt at HRX
  generalize rtSlot rc = sl at *
  rcases (show sl = 0 ∨ sl = 1 by omega) with rfl | rfl
  · skip
    have HSLT := Lib.hid (fun W => show Calls Try.prog 16 #[.agg #[.int .u64 (nb rc.E), .int .u64 (nb rc.P), .int .u64 (nb rc.T), .int .u64 (nb rc.S), .int .u64 (nb rc.L), .int .u64 (nb rc.a), .int .u64 (nb rc.b), .int .u64 (nb rc.c), .int .u64 (nb rc.d)]] W fun e w' => e = .returned (.int .i64 0) ∧ FB W w' from hslt W)
    have HPX := Lib.hid (show rtR ((B2.drop 0).take 4096) = (x, 0) from by have h := HRX.out; rw [catV_image] at h; exact h)
    have HPL := Lib.hid (show ((B2.drop 0).take 4096).length = 4096 from by rw [List.length_take, List.length_drop, HB2.out]; omega)
    clear hslt hsl HRX
    have hv0 : IntKind.i64.wrap 0 = 0 := rfl
    have hv1 : IntKind.i64.wrap 4096 = 4096 := rfl
    have hv2 : IntKind.i64.wrap 8192 = 8192 := rfl
    have hv3 : IntKind.i64.wrap (4096 + 4096) = 8192 := rfl
    have hv4 : IntKind.i64.wrap (0 + 4096) = 4096 := rfl
    obtain ⟨W0, hW0⟩ : ∃ W0 : World, W0 = w16 := ⟨_, rfl⟩
    rw [← hW0]
    refine region_schB (E := Below (w16.heap.size)) ([]) ([(0, true), (2, true), (5, true)]) (.two [(1, false)] (.two [(3, false), (4, true)] (.two [(6, false), (7, true), (8, true), (9, true)] (.two [(10, false), (11, true), (12, true), (13, true), (14, false), (15, false), (16, true)] .leaf [(14, false), (10, false), (11, true), (12, true), (13, true), (15, false), (16, true)] .leaf) [(14, false), (6, false), (7, true), (8, true), (9, true), (10, false), (11, true), (12, true), (13, true), (15, false), (16, true)] .leaf) [(14, false), (3, false), (4, true), (6, false), (7, true), (8, true), (9, true), (10, false), (11, true), (12, true), (13, true), (15, false), (16, true)] .leaf) [(14, false), (1, false), (3, false), (4, true), (6, false), (7, true), (8, true), (9, true), (10, false), (11, true), (12, true), (13, true), (15, false), (16, true)] .leaf) ([]) (by kernel_rfl) (Below.refl _) (fun _ _ _ h k => Below.trans h k) (fun _ _ d _ _ h => by cases d <;> exact h) (by kernel_rfl) ?_
    intro ops hops0
    have hops := Lib.hid hops0
    clear hops0
    have HD : FB W0 W0.drew := (FB.refl _).drew
    generalize W0.drew = wF0 at *
    rw [hW0] at HD
    have HFB := Lib.hid (show FB w16 wF0 from HD)
    clear hW0 HD
    refine sch_done ?_
    refine schB_pre ?_
    have K1 := Lib.hid (prow9 (rs_keep HFB.out HS16.out.c))
    have HBL := Lib.hid (Array.getElem?_eq_some_iff.1 HS16.out.c).1
    repeat (refine sch_take (o := ?_) (v := ?_) (a' := ?_) (at_of hops.out ?_) ?_ (fun W hW => ?_) ?_ ?_; rotate_left 3; (focus (simp only [List.getElem?_toArray, List.getElem?_cons_zero, List.getElem?_cons_succ]; rfl)); (focus (rw [hops.out]; rfl)); (focus (have u0 := bl_cell hW K1.out.1 HBL.out; have u1 := bl_cell hW K1.out.2.1 HBL.out; have u2 := bl_cell hW K1.out.2.2.1 HBL.out; have u3 := bl_cell hW K1.out.2.2.2.1 HBL.out; have u4 := bl_cell hW K1.out.2.2.2.2.1 HBL.out; have u5 := bl_cell hW K1.out.2.2.2.2.2.1 HBL.out; have u6 := bl_cell hW K1.out.2.2.2.2.2.2.1 HBL.out; have u7 := bl_cell hW K1.out.2.2.2.2.2.2.2.1 HBL.out; have u8 := bl_cell hW K1.out.2.2.2.2.2.2.2.2 HBL.out; go_simp; with_reducible rfl)); (focus (simp only [Act.put, List.setIfInBounds_toArray, List.set_cons_zero, List.set_cons_succ]; rfl)))
    clear K1
    refine sch_done ?_
    refine schB_two ?_ ?_
    · skip
      (refine sch_call (o := ?_) (f := ?_) (args := ?_) (at_of hops.out ?_) ?_ ?_ ?_; rotate_left 3; (focus (simp only [List.getElem?_toArray, List.getElem?_cons_zero, List.getElem?_cons_succ]; rfl)); (focus (rw [hops.out]; rfl)); (focus (go_simp; constructor <;> with_reducible rfl)); (first | ((with_reducible refine (HIM.out _ HFB.out).mono ?_); rintro e y1 ⟨bI, oI, cI, rfl, hr, h1, h2, hb⟩; refine ⟨_, rfl, (Below.mono hb HFB.out.le), ?_⟩; intro a' ha'; simp only [Act.put, List.setIfInBounds_toArray, List.set_cons_zero, List.set_cons_succ] at ha'; subst ha')))
      have HIR := Lib.hid hr
      have HIC := Lib.hid (And.intro h1 h2)
      have hc1 : (8192 : Int) ≤ (cI : Int) := by omega
      have hc2 : (4096 : Int) ≤ (cI : Int) := by omega
      have hc3 : (cI : Int) ≤ 9223372036854775807 := by unfold maxLen at h2; omega
      have hc4 : ¬ cI = 4096 := by omega
      replace HFB := Lib.hid (HFB.out.trans hb)
      clear hb hr h1 h2
      repeat (refine sch_take (o := ?_) (v := ?_) (a' := ?_) (at_of hops.out ?_) ?_ (fun W hW => ?_) ?_ ?_; rotate_left 3; (focus (simp only [List.getElem?_toArray, List.getElem?_cons_zero, List.getElem?_cons_succ]; rfl)); (focus (rw [hops.out]; rfl)); (focus (go_simp; with_reducible rfl)); (focus (simp only [Act.put, List.setIfInBounds_toArray, List.set_cons_zero, List.set_cons_succ]; rfl)))
      refine sch_done ?_
      refine schB_two ?_ ?_
      · skip
        (refine sch_call (o := ?_) (f := ?_) (args := ?_) (at_of hops.out ?_) ?_ ?_ ?_; rotate_left 3; (focus (simp only [List.getElem?_toArray, List.getElem?_cons_zero, List.getElem?_cons_succ]; rfl)); (focus (rw [hops.out]; rfl)); (focus (go_simp; constructor <;> with_reducible rfl)); (first | ((with_reducible refine (HSLT.out _).mono ?_); rintro e y2 ⟨rfl, hb⟩; refine ⟨_, rfl, (Below.mono hb HFB.out.le), ?_⟩; intro a' ha'; simp only [Act.put, List.setIfInBounds_toArray, List.set_cons_zero, List.set_cons_succ] at ha'; subst ha')))
        replace HIR := Lib.hid (hb.rd HIR.out)
        replace HFB := Lib.hid (HFB.out.trans hb)
        clear hb
        repeat (refine sch_take (o := ?_) (v := ?_) (a' := ?_) (at_of hops.out ?_) ?_ (fun W hW => ?_) ?_ ?_; rotate_left 3; (focus (simp only [List.getElem?_toArray, List.getElem?_cons_zero, List.getElem?_cons_succ]; rfl)); (focus (rw [hops.out]; rfl)); (focus (go_simp; with_reducible rfl)); (focus (simp only [Act.put, List.setIfInBounds_toArray, List.set_cons_zero, List.set_cons_succ]; rfl)))
        refine sch_done ?_
        refine schB_two ?_ ?_
        · skip
          (refine sch_call (o := ?_) (f := ?_) (args := ?_) (at_of hops.out ?_) ?_ ?_ ?_; rotate_left 3; (focus (simp only [List.getElem?_toArray, List.getElem?_cons_zero, List.getElem?_cons_succ]; rfl)); (focus (rw [hops.out]; rfl)); (focus (go_simp; constructor <;> with_reducible rfl)); (first | ((with_reducible refine (HSLT.out _).mono ?_); rintro e y3 ⟨rfl, hb⟩; refine ⟨_, rfl, (Below.mono hb HFB.out.le), ?_⟩; intro a' ha'; simp only [Act.put, List.setIfInBounds_toArray, List.set_cons_zero, List.set_cons_succ] at ha'; subst ha')))
          replace HIR := Lib.hid (hb.rd HIR.out)
          replace HFB := Lib.hid (HFB.out.trans hb)
          clear hb
          repeat (refine sch_take (o := ?_) (v := ?_) (a' := ?_) (at_of hops.out ?_) ?_ (fun W hW => ?_) ?_ ?_; rotate_left 3; (focus (simp only [List.getElem?_toArray, List.getElem?_cons_zero, List.getElem?_cons_succ]; rfl)); (focus (rw [hops.out]; rfl)); (focus (go_simp; with_reducible rfl)); (focus (simp only [Act.put, List.setIfInBounds_toArray, List.set_cons_zero, List.set_cons_succ]; rfl)))
          refine sch_done ?_
          refine schB_two ?_ ?_
          · skip
            have hcr := r6_Read ((B2.drop 0).take 4096) (some ⟨bI, oI, none⟩) (cI) y3 (by rw [HPL.out]; omega) (by rw [HPL.out]; have := HIC.out.1; omega) (by have := HIC.out.2; omega) ((show Rd _ _ (B2.drop 0) from by rw [List.drop_zero]; exact HIR.out).take 4096)
            rw [HPX.out, HPL.out] at hcr
            unfold rtV rtCs at hcr
            have HCR := Lib.hid hcr
            clear hcr
            (refine sch_call (o := ?_) (f := ?_) (args := ?_) (at_of hops.out ?_) ?_ ?_ ?_; rotate_left 3; (focus (simp only [List.getElem?_toArray, List.getElem?_cons_zero, List.getElem?_cons_succ]; rfl)); (focus (rw [hops.out]; rfl)); (focus (go_simp; constructor <;> with_reducible rfl)); (first | ((with_reducible refine HCR.out.mono ?_); rintro e y4 ⟨rfl, hb⟩; refine ⟨_, rfl, (Below.mono hb HFB.out.le), ?_⟩; intro a' ha'; simp only [Act.put, List.setIfInBounds_toArray, List.set_cons_zero, List.set_cons_succ] at ha'; subst ha')))
            replace HFB := Lib.hid (HFB.out.trans hb)
            clear hb HCR
            repeat (refine sch_take (o := ?_) (v := ?_) (a' := ?_) (at_of hops.out ?_) ?_ (fun W hW => ?_) ?_ ?_; rotate_left 3; (focus (simp only [List.getElem?_toArray, List.getElem?_cons_zero, List.getElem?_cons_succ]; rfl)); (focus (rw [hops.out]; rfl)); (focus (go_simp; with_reducible rfl)); (focus (simp only [Act.put, List.setIfInBounds_toArray, List.set_cons_zero, List.set_cons_succ]; rfl)))
            (refine sch_run (o := ?_) (v := ?_) (a' := ?_) (w' := ?_) (at_of hops.out ?_) ?_ ?_ ?_ ?_ ?_; rotate_left 4; (focus (simp only [List.getElem?_toArray, List.getElem?_cons_zero, List.getElem?_cons_succ]; rfl)); (focus (rw [hops.out]; rfl)); (focus (go_simp; constructor <;> with_reducible rfl)); (focus (exact Below.alloc (Below.refl _ _) HFB.out.le _)); (focus (simp only [Act.put, List.setIfInBounds_toArray, List.set_cons_zero, List.set_cons_succ]; rfl)))
            have HROW := Lib.hid (show (y4.alloc (.cells #[.int .u64 0, .int .u64 0, .int .u64 0, .int .u64 0, .int .u64 0, .int .u64 0, .int .u64 0, .int .u64 0, .int .u64 0] 29)).heap[y4.heap.size]? = some (.cells (rtCs rt0) 29 (0, 0)) from heap_alloc_new y4 (.cells #[.int .u64 0, .int .u64 0, .int .u64 0, .int .u64 0, .int .u64 0, .int .u64 0, .int .u64 0, .int .u64 0, .int .u64 0] 29))
            have HGP := Lib.hid (show w16.heap.size ≤ y4.heap.size from HFB.out.le)
            replace HFB := Lib.hid (HFB.out.alloc (.cells #[.int .u64 0, .int .u64 0, .int .u64 0, .int .u64 0, .int .u64 0, .int .u64 0, .int .u64 0, .int .u64 0, .int .u64 0] 29))
            generalize y4.alloc _ = y5 at *
            generalize y4.heap.size = gP at *
            repeat (refine sch_take (o := ?_) (v := ?_) (a' := ?_) (at_of hops.out ?_) ?_ (fun W hW => ?_) ?_ ?_; rotate_left 3; (focus (simp only [List.getElem?_toArray, List.getElem?_cons_zero, List.getElem?_cons_succ]; rfl)); (focus (rw [hops.out]; rfl)); (focus (go_simp; with_reducible rfl)); (focus (simp only [Act.put, List.setIfInBounds_toArray, List.set_cons_zero, List.set_cons_succ]; rfl)))
            have hst := rt_store rt0 x HROW.out
            unfold rtV rtCs at hst
            obtain ⟨wE, hwE⟩ : ∃ wE : World, wE = y5.setRow gP (rtCs x) := ⟨_, rfl⟩
            have hst2 : (Instr.storeAt 29 (.pointer (some ⟨gP, 0, none⟩)) (.agg #[.int .u64 (nb x.E), .int .u64 (nb x.P), .int .u64 (nb x.T), .int .u64 (nb x.S), .int .u64 (nb x.L), .int .u64 (nb x.a), .int .u64 (nb x.b), .int .u64 (nb x.c), .int .u64 (nb x.d)])).run Try.prog y5 = .ok () wE := by rw [hwE]; exact hst
            clear hst
            (refine sch_storeR (o := ?_) (at_of hops.out ?_) ?_ 29 (.tmp 15) (.tmp 120) ?_ ?_ (.pointer (some ⟨gP, 0, none⟩)) (.agg #[.int .u64 (nb x.E), .int .u64 (nb x.P), .int .u64 (nb x.T), .int .u64 (nb x.S), .int .u64 (nb x.L), .int .u64 (nb x.a), .int .u64 (nb x.b), .int .u64 (nb x.c), .int .u64 (nb x.d)]) ?_ ?_ hst2 (by rw [hwE]; exact below_setRow (Below.refl _ _) HGP.out _) ?_; rotate_left 1; (focus (simp only [List.getElem?_toArray, List.getElem?_cons_zero, List.getElem?_cons_succ]; rfl)); (focus (rw [hops.out]; rfl)); (focus rfl); (focus rfl); (focus rfl); (focus rfl))
            repeat (refine sch_take (o := ?_) (v := ?_) (a' := ?_) (at_of hops.out ?_) ?_ (fun W hW => ?_) ?_ ?_; rotate_left 3; (focus (simp only [List.getElem?_toArray, List.getElem?_cons_zero, List.getElem?_cons_succ]; rfl)); (focus (rw [hops.out]; rfl)); (focus (go_simp; with_reducible rfl)); (focus (simp only [Act.put, List.setIfInBounds_toArray, List.set_cons_zero, List.set_cons_succ]; rfl)))
            refine sch_done ?_
            refine schB_leaf ?_
            refine sch_done ?_
            have HE1 := Lib.hid (show wE.heap[gP]? = some (.cells (rtCs x) 29 (0, 0)) from by rw [hwE]; exact setRow_heap y5 gP _ (rtCs x) _ _ HROW.out)
            have HE2 := Lib.hid (show wE.heap[gx]? = some (.cells (rtCs x) 29 (0, 0)) from by rw [hwE]; exact (setRow_other y5 gP gx (rtCs x) (by have h1 := HGP.out; have h2 := (Array.getElem?_eq_some_iff.1 HX16.out).1; omega)).trans (rs_keep HFB.out HX16.out))
            have HE3 := Lib.hid (show FB w wE from by rw [hwE]; exact (HS16.out.fb.trans HFB.out).setRow (g := gP) (Nat.le_trans HS16.out.fb.le HGP.out) (rtCs x))
            clear hst2 hwE hops
            have qx := prow9 HE1.out
            have qy := prow9 HE2.out
            have HQ := rt_eql x x
            rw [rtEq_self] at HQ
            go_wp2
            go_ret
            exact ⟨rfl, HE3.out⟩
          · skip
            (refine sch_run (o := ?_) (v := ?_) (a' := ?_) (w' := ?_) (at_of hops.out ?_) ?_ ?_ ?_ ?_ ?_; rotate_left 4; (focus (simp only [List.getElem?_toArray, List.getElem?_cons_zero, List.getElem?_cons_succ]; rfl)); (focus (rw [hops.out]; rfl)); (focus (go_simp; constructor <;> with_reducible rfl)); (focus (exact Below.alloc (Below.refl _ _) HFB.out.le _)); (focus (simp only [Act.put, List.setIfInBounds_toArray, List.set_cons_zero, List.set_cons_succ]; rfl)))
            have HROW := Lib.hid (show (y3.alloc (.cells #[.int .u64 0, .int .u64 0, .int .u64 0, .int .u64 0, .int .u64 0, .int .u64 0, .int .u64 0, .int .u64 0, .int .u64 0] 29)).heap[y3.heap.size]? = some (.cells (rtCs rt0) 29 (0, 0)) from heap_alloc_new y3 (.cells #[.int .u64 0, .int .u64 0, .int .u64 0, .int .u64 0, .int .u64 0, .int .u64 0, .int .u64 0, .int .u64 0, .int .u64 0] 29))
            have HGP := Lib.hid (show w16.heap.size ≤ y3.heap.size from HFB.out.le)
            replace HIR := Lib.hid (((FB.refl y3).alloc (.cells #[.int .u64 0, .int .u64 0, .int .u64 0, .int .u64 0, .int .u64 0, .int .u64 0, .int .u64 0, .int .u64 0, .int .u64 0] 29)).rd HIR.out)
            replace HFB := Lib.hid (HFB.out.alloc (.cells #[.int .u64 0, .int .u64 0, .int .u64 0, .int .u64 0, .int .u64 0, .int .u64 0, .int .u64 0, .int .u64 0, .int .u64 0] 29))
            generalize y3.alloc _ = y6 at *
            generalize y3.heap.size = gP at *
            repeat (refine sch_take (o := ?_) (v := ?_) (a' := ?_) (at_of hops.out ?_) ?_ (fun W hW => ?_) ?_ ?_; rotate_left 3; (focus (simp only [List.getElem?_toArray, List.getElem?_cons_zero, List.getElem?_cons_succ]; rfl)); (focus (rw [hops.out]; rfl)); (focus (go_simp; with_reducible rfl)); (focus (simp only [Act.put, List.setIfInBounds_toArray, List.set_cons_zero, List.set_cons_succ]; rfl)))
            have hcr := r6_Read ((B2.drop 0).take 4096) (some ⟨bI, oI, none⟩) (cI) y6 (by rw [HPL.out]; omega) (by rw [HPL.out]; have := HIC.out.1; omega) (by have := HIC.out.2; omega) ((show Rd _ _ (B2.drop 0) from by rw [List.drop_zero]; exact HIR.out).take 4096)
            rw [HPX.out, HPL.out] at hcr
            unfold rtV rtCs at hcr
            have HCR := Lib.hid hcr
            clear hcr
            (refine sch_call (o := ?_) (f := ?_) (args := ?_) (at_of hops.out ?_) ?_ ?_ ?_; rotate_left 3; (focus (simp only [List.getElem?_toArray, List.getElem?_cons_zero, List.getElem?_cons_succ]; rfl)); (focus (rw [hops.out]; rfl)); (focus (go_simp; constructor <;> with_reducible rfl)); (first | ((with_reducible refine HCR.out.mono ?_); rintro e y7 ⟨rfl, hb⟩; refine ⟨_, rfl, (Below.mono hb HFB.out.le), ?_⟩; intro a' ha'; simp only [Act.put, List.setIfInBounds_toArray, List.set_cons_zero, List.set_cons_succ] at ha'; subst ha')))
            replace HROW := Lib.hid (rs_keep hb HROW.out)
            replace HFB := Lib.hid (HFB.out.trans hb)
            clear hb HCR
            repeat (refine sch_take (o := ?_) (v := ?_) (a' := ?_) (at_of hops.out ?_) ?_ (fun W hW => ?_) ?_ ?_; rotate_left 3; (focus (simp only [List.getElem?_toArray, List.getElem?_cons_zero, List.getElem?_cons_succ]; rfl)); (focus (rw [hops.out]; rfl)); (focus (go_simp; with_reducible rfl)); (focus (simp only [Act.put, List.setIfInBounds_toArray, List.set_cons_zero, List.set_cons_succ]; rfl)))
            have hst := rt_store rt0 x HROW.out
            unfold rtV rtCs at hst
            obtain ⟨wE, hwE⟩ : ∃ wE : World, wE = y7.setRow gP (rtCs x) := ⟨_, rfl⟩
            have hst2 : (Instr.storeAt 29 (.pointer (some ⟨gP, 0, none⟩)) (.agg #[.int .u64 (nb x.E), .int .u64 (nb x.P), .int .u64 (nb x.T), .int .u64 (nb x.S), .int .u64 (nb x.L), .int .u64 (nb x.a), .int .u64 (nb x.b), .int .u64 (nb x.c), .int .u64 (nb x.d)])).run Try.prog y7 = .ok () wE := by rw [hwE]; exact hst
            clear hst
            (refine sch_storeR (o := ?_) (at_of hops.out ?_) ?_ 29 (.tmp 15) (.tmp 120) ?_ ?_ (.pointer (some ⟨gP, 0, none⟩)) (.agg #[.int .u64 (nb x.E), .int .u64 (nb x.P), .int .u64 (nb x.T), .int .u64 (nb x.S), .int .u64 (nb x.L), .int .u64 (nb x.a), .int .u64 (nb x.b), .int .u64 (nb x.c), .int .u64 (nb x.d)]) ?_ ?_ hst2 (by rw [hwE]; exact below_setRow (Below.refl _ _) HGP.out _) ?_; rotate_left 1; (focus (simp only [List.getElem?_toArray, List.getElem?_cons_zero, List.getElem?_cons_succ]; rfl)); (focus (rw [hops.out]; rfl)); (focus rfl); (focus rfl); (focus rfl); (focus rfl))
            repeat (refine sch_take (o := ?_) (v := ?_) (a' := ?_) (at_of hops.out ?_) ?_ (fun W hW => ?_) ?_ ?_; rotate_left 3; (focus (simp only [List.getElem?_toArray, List.getElem?_cons_zero, List.getElem?_cons_succ]; rfl)); (focus (rw [hops.out]; rfl)); (focus (go_simp; with_reducible rfl)); (focus (simp only [Act.put, List.setIfInBounds_toArray, List.set_cons_zero, List.set_cons_succ]; rfl)))
            refine sch_done ?_
            refine schB_leaf ?_
            refine sch_done ?_
            have HE1 := Lib.hid (show wE.heap[gP]? = some (.cells (rtCs x) 29 (0, 0)) from by rw [hwE]; exact setRow_heap y7 gP _ (rtCs x) _ _ HROW.out)
            have HE2 := Lib.hid (show wE.heap[gx]? = some (.cells (rtCs x) 29 (0, 0)) from by rw [hwE]; exact (setRow_other y7 gP gx (rtCs x) (by have h1 := HGP.out; have h2 := (Array.getElem?_eq_some_iff.1 HX16.out).1; omega)).trans (rs_keep HFB.out HX16.out))
            have HE3 := Lib.hid (show FB w wE from by rw [hwE]; exact (HS16.out.fb.trans HFB.out).setRow (g := gP) (Nat.le_trans HS16.out.fb.le HGP.out) (rtCs x))
            clear hst2 hwE hops
            have qx := prow9 HE1.out
            have qy := prow9 HE2.out
            have HQ := rt_eql x x
            rw [rtEq_self] at HQ
            go_wp2
            go_ret
            exact ⟨rfl, HE3.out⟩
        · skip
          (refine sch_run (o := ?_) (v := ?_) (a' := ?_) (w' := ?_) (at_of hops.out ?_) ?_ ?_ ?_ ?_ ?_; rotate_left 4; (focus (simp only [List.getElem?_toArray, List.getElem?_cons_zero, List.getElem?_cons_succ]; rfl)); (focus (rw [hops.out]; rfl)); (focus (go_simp; constructor <;> with_reducible rfl)); (focus (exact Below.alloc (Below.refl _ _) HFB.out.le _)); (focus (simp only [Act.put, List.setIfInBounds_toArray, List.set_cons_zero, List.set_cons_succ]; rfl)))
          have HROW := Lib.hid (show (y2.alloc (.cells #[.int .u64 0, .int .u64 0, .int .u64 0, .int .u64 0, .int .u64 0, .int .u64 0, .int .u64 0, .int .u64 0, .int .u64 0] 29)).heap[y2.heap.size]? = some (.cells (rtCs rt0) 29 (0, 0)) from heap_alloc_new y2 (.cells #[.int .u64 0, .int .u64 0, .int .u64 0, .int .u64 0, .int .u64 0, .int .u64 0, .int .u64 0, .int .u64 0, .int .u64 0] 29))
          have HGP := Lib.hid (show w16.heap.size ≤ y2.heap.size from HFB.out.le)
          replace HIR := Lib.hid (((FB.refl y2).alloc (.cells #[.int .u64 0, .int .u64 0, .int .u64 0, .int .u64 0, .int .u64 0, .int .u64 0, .int .u64 0, .int .u64 0, .int .u64 0] 29)).rd HIR.out)
          replace HFB := Lib.hid (HFB.out.alloc (.cells #[.int .u64 0, .int .u64 0, .int .u64 0, .int .u64 0, .int .u64 0, .int .u64 0, .int .u64 0, .int .u64 0, .int .u64 0] 29))
          generalize y2.alloc _ = y8 at *
          generalize y2.heap.size = gP at *
          repeat (refine sch_take (o := ?_) (v := ?_) (a' := ?_) (at_of hops.out ?_) ?_ (fun W hW => ?_) ?_ ?_; rotate_left 3; (focus (simp only [List.getElem?_toArray, List.getElem?_cons_zero, List.getElem?_cons_succ]; rfl)); (focus (rw [hops.out]; rfl)); (focus (go_simp; with_reducible rfl)); (focus (simp only [Act.put, List.setIfInBounds_toArray, List.set_cons_zero, List.set_cons_succ]; rfl)))
          (refine sch_call (o := ?_) (f := ?_) (args := ?_) (at_of hops.out ?_) ?_ ?_ ?_; rotate_left 3; (focus (simp only [List.getElem?_toArray, List.getElem?_cons_zero, List.getElem?_cons_succ]; rfl)); (focus (rw [hops.out]; rfl)); (focus (go_simp; constructor <;> with_reducible rfl)); (first | ((with_reducible refine (HSLT.out _).mono ?_); rintro e y9 ⟨rfl, hb⟩; refine ⟨_, rfl, (Below.mono hb HFB.out.le), ?_⟩; intro a' ha'; simp only [Act.put, List.setIfInBounds_toArray, List.set_cons_zero, List.set_cons_succ] at ha'; subst ha')))
          replace HROW := Lib.hid (rs_keep hb HROW.out)
          replace HIR := Lib.hid (hb.rd HIR.out)
          replace HFB := Lib.hid (HFB.out.trans hb)
          clear hb
          repeat (refine sch_take (o := ?_) (v := ?_) (a' := ?_) (at_of hops.out ?_) ?_ (fun W hW => ?_) ?_ ?_; rotate_left 3; (focus (simp only [List.getElem?_toArray, List.getElem?_cons_zero, List.getElem?_cons_succ]; rfl)); (focus (rw [hops.out]; rfl)); (focus (go_simp; with_reducible rfl)); (focus (simp only [Act.put, List.setIfInBounds_toArray, List.set_cons_zero, List.set_cons_succ]; rfl)))
          have hcr := r6_Read ((B2.drop 0).take 4096) (some ⟨bI, oI, none⟩) (cI) y9 (by rw [HPL.out]; omega) (by rw [HPL.out]; have := HIC.out.1; omega) (by have := HIC.out.2; omega) ((show Rd _ _ (B2.drop 0) from by rw [List.drop_zero]; exact HIR.out).take 4096)
          rw [HPX.out, HPL.out] at hcr
          unfold rtV rtCs at hcr
          have HCR := Lib.hid hcr
          clear hcr
          (refine sch_call (o := ?_) (f := ?_) (args := ?_) (at_of hops.out ?_) ?_ ?_ ?_; rotate_left 3; (focus (simp only [List.getElem?_toArray, List.getElem?_cons_zero, List.getElem?_cons_succ]; rfl)); (focus (rw [hops.out]; rfl)); (focus (go_simp; constructor <;> with_reducible rfl)); (first | ((with_reducible refine HCR.out.mono ?_); rintro e y10 ⟨rfl, hb⟩; refine ⟨_, rfl, (Below.mono hb HFB.out.le), ?_⟩; intro a' ha'; simp only [Act.put, List.setIfInBounds_toArray, List.set_cons_zero, List.set_cons_succ] at ha'; subst ha')))
          replace HROW := Lib.hid (rs_keep hb HROW.out)
          replace HFB := Lib.hid (HFB.out.trans hb)
          clear hb HCR
          repeat (refine sch_take (o := ?_) (v := ?_) (a' := ?_) (at_of hops.out ?_) ?_ (fun W hW => ?_) ?_ ?_; rotate_left 3; (focus (simp only [List.getElem?_toArray, List.getElem?_cons_zero, List.getElem?_cons_succ]; rfl)); (focus (rw [hops.out]; rfl)); (focus (go_simp; with_reducible rfl)); (focus (simp only [Act.put, List.setIfInBounds_toArray, List.set_cons_zero, List.set_cons_succ]; rfl)))
          have hst := rt_store rt0 x HROW.out
          unfold rtV rtCs at hst
          obtain ⟨wE, hwE⟩ : ∃ wE : World, wE = y10.setRow gP (rtCs x) := ⟨_, rfl⟩
          have hst2 : (Instr.storeAt 29 (.pointer (some ⟨gP, 0, none⟩)) (.agg #[.int .u64 (nb x.E), .int .u64 (nb x.P), .int .u64 (nb x.T), .int .u64 (nb x.S), .int .u64 (nb x.L), .int .u64 (nb x.a), .int .u64 (nb x.b), .int .u64 (nb x.c), .int .u64 (nb x.d)])).run Try.prog y10 = .ok () wE := by rw [hwE]; exact hst
          clear hst
          (refine sch_storeR (o := ?_) (at_of hops.out ?_) ?_ 29 (.tmp 15) (.tmp 120) ?_ ?_ (.pointer (some ⟨gP, 0, none⟩)) (.agg #[.int .u64 (nb x.E), .int .u64 (nb x.P), .int .u64 (nb x.T), .int .u64 (nb x.S), .int .u64 (nb x.L), .int .u64 (nb x.a), .int .u64 (nb x.b), .int .u64 (nb x.c), .int .u64 (nb x.d)]) ?_ ?_ hst2 (by rw [hwE]; exact below_setRow (Below.refl _ _) HGP.out _) ?_; rotate_left 1; (focus (simp only [List.getElem?_toArray, List.getElem?_cons_zero, List.getElem?_cons_succ]; rfl)); (focus (rw [hops.out]; rfl)); (focus rfl); (focus rfl); (focus rfl); (focus rfl))
          repeat (refine sch_take (o := ?_) (v := ?_) (a' := ?_) (at_of hops.out ?_) ?_ (fun W hW => ?_) ?_ ?_; rotate_left 3; (focus (simp only [List.getElem?_toArray, List.getElem?_cons_zero, List.getElem?_cons_succ]; rfl)); (focus (rw [hops.out]; rfl)); (focus (go_simp; with_reducible rfl)); (focus (simp only [Act.put, List.setIfInBounds_toArray, List.set_cons_zero, List.set_cons_succ]; rfl)))
          refine sch_done ?_
          refine schB_leaf ?_
          refine sch_done ?_
          have HE1 := Lib.hid (show wE.heap[gP]? = some (.cells (rtCs x) 29 (0, 0)) from by rw [hwE]; exact setRow_heap y10 gP _ (rtCs x) _ _ HROW.out)
          have HE2 := Lib.hid (show wE.heap[gx]? = some (.cells (rtCs x) 29 (0, 0)) from by rw [hwE]; exact (setRow_other y10 gP gx (rtCs x) (by have h1 := HGP.out; have h2 := (Array.getElem?_eq_some_iff.1 HX16.out).1; omega)).trans (rs_keep HFB.out HX16.out))
          have HE3 := Lib.hid (show FB w wE from by rw [hwE]; exact (HS16.out.fb.trans HFB.out).setRow (g := gP) (Nat.le_trans HS16.out.fb.le HGP.out) (rtCs x))
          clear hst2 hwE hops
          have qx := prow9 HE1.out
          have qy := prow9 HE2.out
          have HQ := rt_eql x x
          rw [rtEq_self] at HQ
          go_wp2
          go_ret
          exact ⟨rfl, HE3.out⟩
      · skip
        (refine sch_run (o := ?_) (v := ?_) (a' := ?_) (w' := ?_) (at_of hops.out ?_) ?_ ?_ ?_ ?_ ?_; rotate_left 4; (focus (simp only [List.getElem?_toArray, List.getElem?_cons_zero, List.getElem?_cons_succ]; rfl)); (focus (rw [hops.out]; rfl)); (focus (go_simp; constructor <;> with_reducible rfl)); (focus (exact Below.alloc (Below.refl _ _) HFB.out.le _)); (focus (simp only [Act.put, List.setIfInBounds_toArray, List.set_cons_zero, List.set_cons_succ]; rfl)))
        have HROW := Lib.hid (show (y1.alloc (.cells #[.int .u64 0, .int .u64 0, .int .u64 0, .int .u64 0, .int .u64 0, .int .u64 0, .int .u64 0, .int .u64 0, .int .u64 0] 29)).heap[y1.heap.size]? = some (.cells (rtCs rt0) 29 (0, 0)) from heap_alloc_new y1 (.cells #[.int .u64 0, .int .u64 0, .int .u64 0, .int .u64 0, .int .u64 0, .int .u64 0, .int .u64 0, .int .u64 0, .int .u64 0] 29))
        have HGP := Lib.hid (show w16.heap.size ≤ y1.heap.size from HFB.out.le)
        replace HIR := Lib.hid (((FB.refl y1).alloc (.cells #[.int .u64 0, .int .u64 0, .int .u64 0, .int .u64 0, .int .u64 0, .int .u64 0, .int .u64 0, .int .u64 0, .int .u64 0] 29)).rd HIR.out)
        replace HFB := Lib.hid (HFB.out.alloc (.cells #[.int .u64 0, .int .u64 0, .int .u64 0, .int .u64 0, .int .u64 0, .int .u64 0, .int .u64 0, .int .u64 0, .int .u64 0] 29))
        generalize y1.alloc _ = y11 at *
        generalize y1.heap.size = gP at *
        repeat (refine sch_take (o := ?_) (v := ?_) (a' := ?_) (at_of hops.out ?_) ?_ (fun W hW => ?_) ?_ ?_; rotate_left 3; (focus (simp only [List.getElem?_toArray, List.getElem?_cons_zero, List.getElem?_cons_succ]; rfl)); (focus (rw [hops.out]; rfl)); (focus (go_simp; with_reducible rfl)); (focus (simp only [Act.put, List.setIfInBounds_toArray, List.set_cons_zero, List.set_cons_succ]; rfl)))
        (refine sch_call (o := ?_) (f := ?_) (args := ?_) (at_of hops.out ?_) ?_ ?_ ?_; rotate_left 3; (focus (simp only [List.getElem?_toArray, List.getElem?_cons_zero, List.getElem?_cons_succ]; rfl)); (focus (rw [hops.out]; rfl)); (focus (go_simp; constructor <;> with_reducible rfl)); (first | ((with_reducible refine (HSLT.out _).mono ?_); rintro e y12 ⟨rfl, hb⟩; refine ⟨_, rfl, (Below.mono hb HFB.out.le), ?_⟩; intro a' ha'; simp only [Act.put, List.setIfInBounds_toArray, List.set_cons_zero, List.set_cons_succ] at ha'; subst ha')))
        replace HROW := Lib.hid (rs_keep hb HROW.out)
        replace HIR := Lib.hid (hb.rd HIR.out)
        replace HFB := Lib.hid (HFB.out.trans hb)
        clear hb
        repeat (refine sch_take (o := ?_) (v := ?_) (a' := ?_) (at_of hops.out ?_) ?_ (fun W hW => ?_) ?_ ?_; rotate_left 3; (focus (simp only [List.getElem?_toArray, List.getElem?_cons_zero, List.getElem?_cons_succ]; rfl)); (focus (rw [hops.out]; rfl)); (focus (go_simp; with_reducible rfl)); (focus (simp only [Act.put, List.setIfInBounds_toArray, List.set_cons_zero, List.set_cons_succ]; rfl)))
        (refine sch_call (o := ?_) (f := ?_) (args := ?_) (at_of hops.out ?_) ?_ ?_ ?_; rotate_left 3; (focus (simp only [List.getElem?_toArray, List.getElem?_cons_zero, List.getElem?_cons_succ]; rfl)); (focus (rw [hops.out]; rfl)); (focus (go_simp; constructor <;> with_reducible rfl)); (first | ((with_reducible refine (HSLT.out _).mono ?_); rintro e y13 ⟨rfl, hb⟩; refine ⟨_, rfl, (Below.mono hb HFB.out.le), ?_⟩; intro a' ha'; simp only [Act.put, List.setIfInBounds_toArray, List.set_cons_zero, List.set_cons_succ] at ha'; subst ha')))
        replace HROW := Lib.hid (rs_keep hb HROW.out)
        replace HIR := Lib.hid (hb.rd HIR.out)
        replace HFB := Lib.hid (HFB.out.trans hb)
        clear hb
        repeat (refine sch_take (o := ?_) (v := ?_) (a' := ?_) (at_of hops.out ?_) ?_ (fun W hW => ?_) ?_ ?_; rotate_left 3; (focus (simp only [List.getElem?_toArray, List.getElem?_cons_zero, List.getElem?_cons_succ]; rfl)); (focus (rw [hops.out]; rfl)); (focus (go_simp; with_reducible rfl)); (focus (simp only [Act.put, List.setIfInBounds_toArray, List.set_cons_zero, List.set_cons_succ]; rfl)))
        have hcr := r6_Read ((B2.drop 0).take 4096) (some ⟨bI, oI, none⟩) (cI) y13 (by rw [HPL.out]; omega) (by rw [HPL.out]; have := HIC.out.1; omega) (by have := HIC.out.2; omega) ((show Rd _ _ (B2.drop 0) from by rw [List.drop_zero]; exact HIR.out).take 4096)
        rw [HPX.out, HPL.out] at hcr
        unfold rtV rtCs at hcr
        have HCR := Lib.hid hcr
        clear hcr
        (refine sch_call (o := ?_) (f := ?_) (args := ?_) (at_of hops.out ?_) ?_ ?_ ?_; rotate_left 3; (focus (simp only [List.getElem?_toArray, List.getElem?_cons_zero, List.getElem?_cons_succ]; rfl)); (focus (rw [hops.out]; rfl)); (focus (go_simp; constructor <;> with_reducible rfl)); (first | ((with_reducible refine HCR.out.mono ?_); rintro e y14 ⟨rfl, hb⟩; refine ⟨_, rfl, (Below.mono hb HFB.out.le), ?_⟩; intro a' ha'; simp only [Act.put, List.setIfInBounds_toArray, List.set_cons_zero, List.set_cons_succ] at ha'; subst ha')))
        replace HROW := Lib.hid (rs_keep hb HROW.out)
        replace HFB := Lib.hid (HFB.out.trans hb)
        clear hb HCR
        repeat (refine sch_take (o := ?_) (v := ?_) (a' := ?_) (at_of hops.out ?_) ?_ (fun W hW => ?_) ?_ ?_; rotate_left 3; (focus (simp only [List.getElem?_toArray, List.getElem?_cons_zero, List.getElem?_cons_succ]; rfl)); (focus (rw [hops.out]; rfl)); (focus (go_simp; with_reducible rfl)); (focus (simp only [Act.put, List.setIfInBounds_toArray, List.set_cons_zero, List.set_cons_succ]; rfl)))
        have hst := rt_store rt0 x HROW.out
        unfold rtV rtCs at hst
        obtain ⟨wE, hwE⟩ : ∃ wE : World, wE = y14.setRow gP (rtCs x) := ⟨_, rfl⟩
        have hst2 : (Instr.storeAt 29 (.pointer (some ⟨gP, 0, none⟩)) (.agg #[.int .u64 (nb x.E), .int .u64 (nb x.P), .int .u64 (nb x.T), .int .u64 (nb x.S), .int .u64 (nb x.L), .int .u64 (nb x.a), .int .u64 (nb x.b), .int .u64 (nb x.c), .int .u64 (nb x.d)])).run Try.prog y14 = .ok () wE := by rw [hwE]; exact hst
        clear hst
        (refine sch_storeR (o := ?_) (at_of hops.out ?_) ?_ 29 (.tmp 15) (.tmp 120) ?_ ?_ (.pointer (some ⟨gP, 0, none⟩)) (.agg #[.int .u64 (nb x.E), .int .u64 (nb x.P), .int .u64 (nb x.T), .int .u64 (nb x.S), .int .u64 (nb x.L), .int .u64 (nb x.a), .int .u64 (nb x.b), .int .u64 (nb x.c), .int .u64 (nb x.d)]) ?_ ?_ hst2 (by rw [hwE]; exact below_setRow (Below.refl _ _) HGP.out _) ?_; rotate_left 1; (focus (simp only [List.getElem?_toArray, List.getElem?_cons_zero, List.getElem?_cons_succ]; rfl)); (focus (rw [hops.out]; rfl)); (focus rfl); (focus rfl); (focus rfl); (focus rfl))
        repeat (refine sch_take (o := ?_) (v := ?_) (a' := ?_) (at_of hops.out ?_) ?_ (fun W hW => ?_) ?_ ?_; rotate_left 3; (focus (simp only [List.getElem?_toArray, List.getElem?_cons_zero, List.getElem?_cons_succ]; rfl)); (focus (rw [hops.out]; rfl)); (focus (go_simp; with_reducible rfl)); (focus (simp only [Act.put, List.setIfInBounds_toArray, List.set_cons_zero, List.set_cons_succ]; rfl)))
        refine sch_done ?_
        refine schB_leaf ?_
        refine sch_done ?_
        have HE1 := Lib.hid (show wE.heap[gP]? = some (.cells (rtCs x) 29 (0, 0)) from by rw [hwE]; exact setRow_heap y14 gP _ (rtCs x) _ _ HROW.out)
        have HE2 := Lib.hid (show wE.heap[gx]? = some (.cells (rtCs x) 29 (0, 0)) from by rw [hwE]; exact (setRow_other y14 gP gx (rtCs x) (by have h1 := HGP.out; have h2 := (Array.getElem?_eq_some_iff.1 HX16.out).1; omega)).trans (rs_keep HFB.out HX16.out))
        have HE3 := Lib.hid (show FB w wE from by rw [hwE]; exact (HS16.out.fb.trans HFB.out).setRow (g := gP) (Nat.le_trans HS16.out.fb.le HGP.out) (rtCs x))
        clear hst2 hwE hops
        have qx := prow9 HE1.out
        have qy := prow9 HE2.out
        have HQ := rt_eql x x
        rw [rtEq_self] at HQ
        go_wp2
        go_ret
        exact ⟨rfl, HE3.out⟩
    · skip
      (refine sch_run (o := ?_) (v := ?_) (a' := ?_) (w' := ?_) (at_of hops.out ?_) ?_ ?_ ?_ ?_ ?_; rotate_left 4; (focus (simp only [List.getElem?_toArray, List.getElem?_cons_zero, List.getElem?_cons_succ]; rfl)); (focus (rw [hops.out]; rfl)); (focus (go_simp; constructor <;> with_reducible rfl)); (focus (exact Below.alloc (Below.refl _ _) HFB.out.le _)); (focus (simp only [Act.put, List.setIfInBounds_toArray, List.set_cons_zero, List.set_cons_succ]; rfl)))
      have HROW := Lib.hid (show (wF0.alloc (.cells #[.int .u64 0, .int .u64 0, .int .u64 0, .int .u64 0, .int .u64 0, .int .u64 0, .int .u64 0, .int .u64 0, .int .u64 0] 29)).heap[wF0.heap.size]? = some (.cells (rtCs rt0) 29 (0, 0)) from heap_alloc_new wF0 (.cells #[.int .u64 0, .int .u64 0, .int .u64 0, .int .u64 0, .int .u64 0, .int .u64 0, .int .u64 0, .int .u64 0, .int .u64 0] 29))
      have HGP := Lib.hid (show w16.heap.size ≤ wF0.heap.size from HFB.out.le)
      replace HFB := Lib.hid (HFB.out.alloc (.cells #[.int .u64 0, .int .u64 0, .int .u64 0, .int .u64 0, .int .u64 0, .int .u64 0, .int .u64 0, .int .u64 0, .int .u64 0] 29))
      generalize wF0.alloc _ = y15 at *
      generalize wF0.heap.size = gP at *
      repeat (refine sch_take (o := ?_) (v := ?_) (a' := ?_) (at_of hops.out ?_) ?_ (fun W hW => ?_) ?_ ?_; rotate_left 3; (focus (simp only [List.getElem?_toArray, List.getElem?_cons_zero, List.getElem?_cons_succ]; rfl)); (focus (rw [hops.out]; rfl)); (focus (go_simp; with_reducible rfl)); (focus (simp only [Act.put, List.setIfInBounds_toArray, List.set_cons_zero, List.set_cons_succ]; rfl)))
      (refine sch_call (o := ?_) (f := ?_) (args := ?_) (at_of hops.out ?_) ?_ ?_ ?_; rotate_left 3; (focus (simp only [List.getElem?_toArray, List.getElem?_cons_zero, List.getElem?_cons_succ]; rfl)); (focus (rw [hops.out]; rfl)); (focus (go_simp; constructor <;> with_reducible rfl)); (first | ((with_reducible refine (HIM.out _ HFB.out).mono ?_); rintro e y16 ⟨bI, oI, cI, rfl, hr, h1, h2, hb⟩; refine ⟨_, rfl, (Below.mono hb HFB.out.le), ?_⟩; intro a' ha'; simp only [Act.put, List.setIfInBounds_toArray, List.set_cons_zero, List.set_cons_succ] at ha'; subst ha')))
      have HIR := Lib.hid hr
      have HIC := Lib.hid (And.intro h1 h2)
      have hc1 : (8192 : Int) ≤ (cI : Int) := by omega
      have hc2 : (4096 : Int) ≤ (cI : Int) := by omega
      have hc3 : (cI : Int) ≤ 9223372036854775807 := by unfold maxLen at h2; omega
      have hc4 : ¬ cI = 4096 := by omega
      replace HROW := Lib.hid (rs_keep hb HROW.out)
      replace HFB := Lib.hid (HFB.out.trans hb)
      clear hb hr h1 h2
      repeat (refine sch_take (o := ?_) (v := ?_) (a' := ?_) (at_of hops.out ?_) ?_ (fun W hW => ?_) ?_ ?_; rotate_left 3; (focus (simp only [List.getElem?_toArray, List.getElem?_cons_zero, List.getElem?_cons_succ]; rfl)); (focus (rw [hops.out]; rfl)); (focus (go_simp; with_reducible rfl)); (focus (simp only [Act.put, List.setIfInBounds_toArray, List.set_cons_zero, List.set_cons_succ]; rfl)))
      (refine sch_call (o := ?_) (f := ?_) (args := ?_) (at_of hops.out ?_) ?_ ?_ ?_; rotate_left 3; (focus (simp only [List.getElem?_toArray, List.getElem?_cons_zero, List.getElem?_cons_succ]; rfl)); (focus (rw [hops.out]; rfl)); (focus (go_simp; constructor <;> with_reducible rfl)); (first | ((with_reducible refine (HSLT.out _).mono ?_); rintro e y17 ⟨rfl, hb⟩; refine ⟨_, rfl, (Below.mono hb HFB.out.le), ?_⟩; intro a' ha'; simp only [Act.put, List.setIfInBounds_toArray, List.set_cons_zero, List.set_cons_succ] at ha'; subst ha')))
      replace HROW := Lib.hid (rs_keep hb HROW.out)
      replace HIR := Lib.hid (hb.rd HIR.out)
      replace HFB := Lib.hid (HFB.out.trans hb)
      clear hb
      repeat (refine sch_take (o := ?_) (v := ?_) (a' := ?_) (at_of hops.out ?_) ?_ (fun W hW => ?_) ?_ ?_; rotate_left 3; (focus (simp only [List.getElem?_toArray, List.getElem?_cons_zero, List.getElem?_cons_succ]; rfl)); (focus (rw [hops.out]; rfl)); (focus (go_simp; with_reducible rfl)); (focus (simp only [Act.put, List.setIfInBounds_toArray, List.set_cons_zero, List.set_cons_succ]; rfl)))
      (refine sch_call (o := ?_) (f := ?_) (args := ?_) (at_of hops.out ?_) ?_ ?_ ?_; rotate_left 3; (focus (simp only [List.getElem?_toArray, List.getElem?_cons_zero, List.getElem?_cons_succ]; rfl)); (focus (rw [hops.out]; rfl)); (focus (go_simp; constructor <;> with_reducible rfl)); (first | ((with_reducible refine (HSLT.out _).mono ?_); rintro e y18 ⟨rfl, hb⟩; refine ⟨_, rfl, (Below.mono hb HFB.out.le), ?_⟩; intro a' ha'; simp only [Act.put, List.setIfInBounds_toArray, List.set_cons_zero, List.set_cons_succ] at ha'; subst ha')))
      replace HROW := Lib.hid (rs_keep hb HROW.out)
      replace HIR := Lib.hid (hb.rd HIR.out)
      replace HFB := Lib.hid (HFB.out.trans hb)
      clear hb
      repeat (refine sch_take (o := ?_) (v := ?_) (a' := ?_) (at_of hops.out ?_) ?_ (fun W hW => ?_) ?_ ?_; rotate_left 3; (focus (simp only [List.getElem?_toArray, List.getElem?_cons_zero, List.getElem?_cons_succ]; rfl)); (focus (rw [hops.out]; rfl)); (focus (go_simp; with_reducible rfl)); (focus (simp only [Act.put, List.setIfInBounds_toArray, List.set_cons_zero, List.set_cons_succ]; rfl)))
      have hcr := r6_Read ((B2.drop 0).take 4096) (some ⟨bI, oI, none⟩) (cI) y18 (by rw [HPL.out]; omega) (by rw [HPL.out]; have := HIC.out.1; omega) (by have := HIC.out.2; omega) ((show Rd _ _ (B2.drop 0) from by rw [List.drop_zero]; exact HIR.out).take 4096)
      rw [HPX.out, HPL.out] at hcr
      unfold rtV rtCs at hcr
      have HCR := Lib.hid hcr
      clear hcr
      (refine sch_call (o := ?_) (f := ?_) (args := ?_) (at_of hops.out ?_) ?_ ?_ ?_; rotate_left 3; (focus (simp only [List.getElem?_toArray, List.getElem?_cons_zero, List.getElem?_cons_succ]; rfl)); (focus (rw [hops.out]; rfl)); (focus (go_simp; constructor <;> with_reducible rfl)); (first | ((with_reducible refine HCR.out.mono ?_); rintro e y19 ⟨rfl, hb⟩; refine ⟨_, rfl, (Below.mono hb HFB.out.le), ?_⟩; intro a' ha'; simp only [Act.put, List.setIfInBounds_toArray, List.set_cons_zero, List.set_cons_succ] at ha'; subst ha')))
      replace HROW := Lib.hid (rs_keep hb HROW.out)
      replace HFB := Lib.hid (HFB.out.trans hb)
      clear hb HCR
      repeat (refine sch_take (o := ?_) (v := ?_) (a' := ?_) (at_of hops.out ?_) ?_ (fun W hW => ?_) ?_ ?_; rotate_left 3; (focus (simp only [List.getElem?_toArray, List.getElem?_cons_zero, List.getElem?_cons_succ]; rfl)); (focus (rw [hops.out]; rfl)); (focus (go_simp; with_reducible rfl)); (focus (simp only [Act.put, List.setIfInBounds_toArray, List.set_cons_zero, List.set_cons_succ]; rfl)))
      have hst := rt_store rt0 x HROW.out
      unfold rtV rtCs at hst
      obtain ⟨wE, hwE⟩ : ∃ wE : World, wE = y19.setRow gP (rtCs x) := ⟨_, rfl⟩
      have hst2 : (Instr.storeAt 29 (.pointer (some ⟨gP, 0, none⟩)) (.agg #[.int .u64 (nb x.E), .int .u64 (nb x.P), .int .u64 (nb x.T), .int .u64 (nb x.S), .int .u64 (nb x.L), .int .u64 (nb x.a), .int .u64 (nb x.b), .int .u64 (nb x.c), .int .u64 (nb x.d)])).run Try.prog y19 = .ok () wE := by rw [hwE]; exact hst
      clear hst
      (refine sch_storeR (o := ?_) (at_of hops.out ?_) ?_ 29 (.tmp 15) (.tmp 120) ?_ ?_ (.pointer (some ⟨gP, 0, none⟩)) (.agg #[.int .u64 (nb x.E), .int .u64 (nb x.P), .int .u64 (nb x.T), .int .u64 (nb x.S), .int .u64 (nb x.L), .int .u64 (nb x.a), .int .u64 (nb x.b), .int .u64 (nb x.c), .int .u64 (nb x.d)]) ?_ ?_ hst2 (by rw [hwE]; exact below_setRow (Below.refl _ _) HGP.out _) ?_; rotate_left 1; (focus (simp only [List.getElem?_toArray, List.getElem?_cons_zero, List.getElem?_cons_succ]; rfl)); (focus (rw [hops.out]; rfl)); (focus rfl); (focus rfl); (focus rfl); (focus rfl))
      repeat (refine sch_take (o := ?_) (v := ?_) (a' := ?_) (at_of hops.out ?_) ?_ (fun W hW => ?_) ?_ ?_; rotate_left 3; (focus (simp only [List.getElem?_toArray, List.getElem?_cons_zero, List.getElem?_cons_succ]; rfl)); (focus (rw [hops.out]; rfl)); (focus (go_simp; with_reducible rfl)); (focus (simp only [Act.put, List.setIfInBounds_toArray, List.set_cons_zero, List.set_cons_succ]; rfl)))
      refine sch_done ?_
      refine schB_leaf ?_
      refine sch_done ?_
      have HE1 := Lib.hid (show wE.heap[gP]? = some (.cells (rtCs x) 29 (0, 0)) from by rw [hwE]; exact setRow_heap y19 gP _ (rtCs x) _ _ HROW.out)
      have HE2 := Lib.hid (show wE.heap[gx]? = some (.cells (rtCs x) 29 (0, 0)) from by rw [hwE]; exact (setRow_other y19 gP gx (rtCs x) (by have h1 := HGP.out; have h2 := (Array.getElem?_eq_some_iff.1 HX16.out).1; omega)).trans (rs_keep HFB.out HX16.out))
      have HE3 := Lib.hid (show FB w wE from by rw [hwE]; exact (HS16.out.fb.trans HFB.out).setRow (g := gP) (Nat.le_trans HS16.out.fb.le HGP.out) (rtCs x))
      clear hst2 hwE hops
      have qx := prow9 HE1.out
      have qy := prow9 HE2.out
      have HQ := rt_eql x x
      rw [rtEq_self] at HQ
      go_wp2
      go_ret
      exact ⟨rfl, HE3.out⟩
  · skip
    have HSLT := Lib.hid (fun W => show Calls Try.prog 16 #[.agg #[.int .u64 (nb rc.E), .int .u64 (nb rc.P), .int .u64 (nb rc.T), .int .u64 (nb rc.S), .int .u64 (nb rc.L), .int .u64 (nb rc.a), .int .u64 (nb rc.b), .int .u64 (nb rc.c), .int .u64 (nb rc.d)]] W fun e w' => e = .returned (.int .i64 1) ∧ FB W w' from hslt W)
    have HPX := Lib.hid (show rtR ((B2.drop 4096).take 4096) = (x, 0) from by have h := HRX.out; rw [catV_image] at h; exact h)
    have HPL := Lib.hid (show ((B2.drop 4096).take 4096).length = 4096 from by rw [List.length_take, List.length_drop, HB2.out]; omega)
    clear hslt hsl HRX
    have hv0 : IntKind.i64.wrap 0 = 0 := rfl
    have hv1 : IntKind.i64.wrap 4096 = 4096 := rfl
    have hv2 : IntKind.i64.wrap 8192 = 8192 := rfl
    have hv3 : IntKind.i64.wrap (4096 + 4096) = 8192 := rfl
    have hv4 : IntKind.i64.wrap (0 + 4096) = 4096 := rfl
    obtain ⟨W0, hW0⟩ : ∃ W0 : World, W0 = w16 := ⟨_, rfl⟩
    rw [← hW0]
    refine region_schB (E := Below (w16.heap.size)) ([]) ([(0, true), (2, true), (5, true)]) (.two [(1, false)] (.two [(3, false), (4, true)] (.two [(6, false), (7, true), (8, true), (9, true)] (.two [(10, false), (11, true), (12, true), (13, true), (14, false), (15, false), (16, true)] .leaf [(14, false), (10, false), (11, true), (12, true), (13, true), (15, false), (16, true)] .leaf) [(14, false), (6, false), (7, true), (8, true), (9, true), (10, false), (11, true), (12, true), (13, true), (15, false), (16, true)] .leaf) [(14, false), (3, false), (4, true), (6, false), (7, true), (8, true), (9, true), (10, false), (11, true), (12, true), (13, true), (15, false), (16, true)] .leaf) [(14, false), (1, false), (3, false), (4, true), (6, false), (7, true), (8, true), (9, true), (10, false), (11, true), (12, true), (13, true), (15, false), (16, true)] .leaf) ([]) (by kernel_rfl) (Below.refl _) (fun _ _ _ h k => Below.trans h k) (fun _ _ d _ _ h => by cases d <;> exact h) (by kernel_rfl) ?_
    intro ops hops0
    have hops := Lib.hid hops0
    clear hops0
    have HD : FB W0 W0.drew := (FB.refl _).drew
    generalize W0.drew = wF0 at *
    rw [hW0] at HD
    have HFB := Lib.hid (show FB w16 wF0 from HD)
    clear hW0 HD
    refine sch_done ?_
    refine schB_pre ?_
    have K1 := Lib.hid (prow9 (rs_keep HFB.out HS16.out.c))
    have HBL := Lib.hid (Array.getElem?_eq_some_iff.1 HS16.out.c).1
    repeat (refine sch_take (o := ?_) (v := ?_) (a' := ?_) (at_of hops.out ?_) ?_ (fun W hW => ?_) ?_ ?_; rotate_left 3; (focus (simp only [List.getElem?_toArray, List.getElem?_cons_zero, List.getElem?_cons_succ]; rfl)); (focus (rw [hops.out]; rfl)); (focus (have u0 := bl_cell hW K1.out.1 HBL.out; have u1 := bl_cell hW K1.out.2.1 HBL.out; have u2 := bl_cell hW K1.out.2.2.1 HBL.out; have u3 := bl_cell hW K1.out.2.2.2.1 HBL.out; have u4 := bl_cell hW K1.out.2.2.2.2.1 HBL.out; have u5 := bl_cell hW K1.out.2.2.2.2.2.1 HBL.out; have u6 := bl_cell hW K1.out.2.2.2.2.2.2.1 HBL.out; have u7 := bl_cell hW K1.out.2.2.2.2.2.2.2.1 HBL.out; have u8 := bl_cell hW K1.out.2.2.2.2.2.2.2.2 HBL.out; go_simp; with_reducible rfl)); (focus (simp only [Act.put, List.setIfInBounds_toArray, List.set_cons_zero, List.set_cons_succ]; rfl)))
    clear K1
    refine sch_done ?_
    refine schB_two ?_ ?_
    · skip
      (refine sch_call (o := ?_) (f := ?_) (args := ?_) (at_of hops.out ?_) ?_ ?_ ?_; rotate_left 3; (focus (simp only [List.getElem?_toArray, List.getElem?_cons_zero, List.getElem?_cons_succ]; rfl)); (focus (rw [hops.out]; rfl)); (focus (go_simp; constructor <;> with_reducible rfl)); (first | ((with_reducible refine (HIM.out _ HFB.out).mono ?_); rintro e y1 ⟨bI, oI, cI, rfl, hr, h1, h2, hb⟩; refine ⟨_, rfl, (Below.mono hb HFB.out.le), ?_⟩; intro a' ha'; simp only [Act.put, List.setIfInBounds_toArray, List.set_cons_zero, List.set_cons_succ] at ha'; subst ha')))
      have HIR := Lib.hid hr
      have HIC := Lib.hid (And.intro h1 h2)
      have hc1 : (8192 : Int) ≤ (cI : Int) := by omega
      have hc2 : (4096 : Int) ≤ (cI : Int) := by omega
      have hc3 : (cI : Int) ≤ 9223372036854775807 := by unfold maxLen at h2; omega
      have hc4 : ¬ cI = 4096 := by omega
      replace HFB := Lib.hid (HFB.out.trans hb)
      clear hb hr h1 h2
      repeat (refine sch_take (o := ?_) (v := ?_) (a' := ?_) (at_of hops.out ?_) ?_ (fun W hW => ?_) ?_ ?_; rotate_left 3; (focus (simp only [List.getElem?_toArray, List.getElem?_cons_zero, List.getElem?_cons_succ]; rfl)); (focus (rw [hops.out]; rfl)); (focus (go_simp; with_reducible rfl)); (focus (simp only [Act.put, List.setIfInBounds_toArray, List.set_cons_zero, List.set_cons_succ]; rfl)))
      refine sch_done ?_
      refine schB_two ?_ ?_
      · skip
        (refine sch_call (o := ?_) (f := ?_) (args := ?_) (at_of hops.out ?_) ?_ ?_ ?_; rotate_left 3; (focus (simp only [List.getElem?_toArray, List.getElem?_cons_zero, List.getElem?_cons_succ]; rfl)); (focus (rw [hops.out]; rfl)); (focus (go_simp; constructor <;> with_reducible rfl)); (first | ((with_reducible refine (HSLT.out _).mono ?_); rintro e y2 ⟨rfl, hb⟩; refine ⟨_, rfl, (Below.mono hb HFB.out.le), ?_⟩; intro a' ha'; simp only [Act.put, List.setIfInBounds_toArray, List.set_cons_zero, List.set_cons_succ] at ha'; subst ha')))
        replace HIR := Lib.hid (hb.rd HIR.out)
        replace HFB := Lib.hid (HFB.out.trans hb)
        clear hb
        repeat (refine sch_take (o := ?_) (v := ?_) (a' := ?_) (at_of hops.out ?_) ?_ (fun W hW => ?_) ?_ ?_; rotate_left 3; (focus (simp only [List.getElem?_toArray, List.getElem?_cons_zero, List.getElem?_cons_succ]; rfl)); (focus (rw [hops.out]; rfl)); (focus (go_simp; with_reducible rfl)); (focus (simp only [Act.put, List.setIfInBounds_toArray, List.set_cons_zero, List.set_cons_succ]; rfl)))
        refine sch_done ?_
        refine schB_two ?_ ?_
        · skip
          (refine sch_call (o := ?_) (f := ?_) (args := ?_) (at_of hops.out ?_) ?_ ?_ ?_; rotate_left 3; (focus (simp only [List.getElem?_toArray, List.getElem?_cons_zero, List.getElem?_cons_succ]; rfl)); (focus (rw [hops.out]; rfl)); (focus (go_simp; constructor <;> with_reducible rfl)); (first | ((with_reducible refine (HSLT.out _).mono ?_); rintro e y3 ⟨rfl, hb⟩; refine ⟨_, rfl, (Below.mono hb HFB.out.le), ?_⟩; intro a' ha'; simp only [Act.put, List.setIfInBounds_toArray, List.set_cons_zero, List.set_cons_succ] at ha'; subst ha')))
          replace HIR := Lib.hid (hb.rd HIR.out)
          replace HFB := Lib.hid (HFB.out.trans hb)
          clear hb
          repeat (refine sch_take (o := ?_) (v := ?_) (a' := ?_) (at_of hops.out ?_) ?_ (fun W hW => ?_) ?_ ?_; rotate_left 3; (focus (simp only [List.getElem?_toArray, List.getElem?_cons_zero, List.getElem?_cons_succ]; rfl)); (focus (rw [hops.out]; rfl)); (focus (go_simp; with_reducible rfl)); (focus (simp only [Act.put, List.setIfInBounds_toArray, List.set_cons_zero, List.set_cons_succ]; rfl)))
          refine sch_done ?_
          refine schB_two ?_ ?_
          · skip
            have hcr := r6_Read ((B2.drop 4096).take 4096) (some ⟨bI, oI + 4096, none⟩) (cI - 4096) y3 (by rw [HPL.out]; omega) (by rw [HPL.out]; have := HIC.out.1; omega) (by have := HIC.out.2; omega) ((HIR.out.drop 4096).take 4096)
            rw [HPX.out, HPL.out] at hcr
            unfold rtV rtCs at hcr
            have HCR := Lib.hid hcr
            clear hcr
            (refine sch_call (o := ?_) (f := ?_) (args := ?_) (at_of hops.out ?_) ?_ ?_ ?_; rotate_left 3; (focus (simp only [List.getElem?_toArray, List.getElem?_cons_zero, List.getElem?_cons_succ]; rfl)); (focus (rw [hops.out]; rfl)); (focus (go_simp; constructor <;> with_reducible rfl)); (first | ((with_reducible refine HCR.out.mono ?_); rintro e y4 ⟨rfl, hb⟩; refine ⟨_, rfl, (Below.mono hb HFB.out.le), ?_⟩; intro a' ha'; simp only [Act.put, List.setIfInBounds_toArray, List.set_cons_zero, List.set_cons_succ] at ha'; subst ha')))
            replace HFB := Lib.hid (HFB.out.trans hb)
            clear hb HCR
            repeat (refine sch_take (o := ?_) (v := ?_) (a' := ?_) (at_of hops.out ?_) ?_ (fun W hW => ?_) ?_ ?_; rotate_left 3; (focus (simp only [List.getElem?_toArray, List.getElem?_cons_zero, List.getElem?_cons_succ]; rfl)); (focus (rw [hops.out]; rfl)); (focus (go_simp; with_reducible rfl)); (focus (simp only [Act.put, List.setIfInBounds_toArray, List.set_cons_zero, List.set_cons_succ]; rfl)))
            (refine sch_run (o := ?_) (v := ?_) (a' := ?_) (w' := ?_) (at_of hops.out ?_) ?_ ?_ ?_ ?_ ?_; rotate_left 4; (focus (simp only [List.getElem?_toArray, List.getElem?_cons_zero, List.getElem?_cons_succ]; rfl)); (focus (rw [hops.out]; rfl)); (focus (go_simp; constructor <;> with_reducible rfl)); (focus (exact Below.alloc (Below.refl _ _) HFB.out.le _)); (focus (simp only [Act.put, List.setIfInBounds_toArray, List.set_cons_zero, List.set_cons_succ]; rfl)))
            have HROW := Lib.hid (show (y4.alloc (.cells #[.int .u64 0, .int .u64 0, .int .u64 0, .int .u64 0, .int .u64 0, .int .u64 0, .int .u64 0, .int .u64 0, .int .u64 0] 29)).heap[y4.heap.size]? = some (.cells (rtCs rt0) 29 (0, 0)) from heap_alloc_new y4 (.cells #[.int .u64 0, .int .u64 0, .int .u64 0, .int .u64 0, .int .u64 0, .int .u64 0, .int .u64 0, .int .u64 0, .int .u64 0] 29))
            have HGP := Lib.hid (show w16.heap.size ≤ y4.heap.size from HFB.out.le)
            replace HFB := Lib.hid (HFB.out.alloc (.cells #[.int .u64 0, .int .u64 0, .int .u64 0, .int .u64 0, .int .u64 0, .int .u64 0, .int .u64 0, .int .u64 0, .int .u64 0] 29))
            generalize y4.alloc _ = y5 at *
            generalize y4.heap.size = gP at *
            repeat (refine sch_take (o := ?_) (v := ?_) (a' := ?_) (at_of hops.out ?_) ?_ (fun W hW => ?_) ?_ ?_; rotate_left 3; (focus (simp only [List.getElem?_toArray, List.getElem?_cons_zero, List.getElem?_cons_succ]; rfl)); (focus (rw [hops.out]; rfl)); (focus (go_simp; with_reducible rfl)); (focus (simp only [Act.put, List.setIfInBounds_toArray, List.set_cons_zero, List.set_cons_succ]; rfl)))
            have hst := rt_store rt0 x HROW.out
            unfold rtV rtCs at hst
            obtain ⟨wE, hwE⟩ : ∃ wE : World, wE = y5.setRow gP (rtCs x) := ⟨_, rfl⟩
            have hst2 : (Instr.storeAt 29 (.pointer (some ⟨gP, 0, none⟩)) (.agg #[.int .u64 (nb x.E), .int .u64 (nb x.P), .int .u64 (nb x.T), .int .u64 (nb x.S), .int .u64 (nb x.L), .int .u64 (nb x.a), .int .u64 (nb x.b), .int .u64 (nb x.c), .int .u64 (nb x.d)])).run Try.prog y5 = .ok () wE := by rw [hwE]; exact hst
            clear hst
            (refine sch_storeR (o := ?_) (at_of hops.out ?_) ?_ 29 (.tmp 15) (.tmp 120) ?_ ?_ (.pointer (some ⟨gP, 0, none⟩)) (.agg #[.int .u64 (nb x.E), .int .u64 (nb x.P), .int .u64 (nb x.T), .int .u64 (nb x.S), .int .u64 (nb x.L), .int .u64 (nb x.a), .int .u64 (nb x.b), .int .u64 (nb x.c), .int .u64 (nb x.d)]) ?_ ?_ hst2 (by rw [hwE]; exact below_setRow (Below.refl _ _) HGP.out _) ?_; rotate_left 1; (focus (simp only [List.getElem?_toArray, List.getElem?_cons_zero, List.getElem?_cons_succ]; rfl)); (focus (rw [hops.out]; rfl)); (focus rfl); (focus rfl); (focus rfl); (focus rfl))
            repeat (refine sch_take (o := ?_) (v := ?_) (a' := ?_) (at_of hops.out ?_) ?_ (fun W hW => ?_) ?_ ?_; rotate_left 3; (focus (simp only [List.getElem?_toArray, List.getElem?_cons_zero, List.getElem?_cons_succ]; rfl)); (focus (rw [hops.out]; rfl)); (focus (go_simp; with_reducible rfl)); (focus (simp only [Act.put, List.setIfInBounds_toArray, List.set_cons_zero, List.set_cons_succ]; rfl)))
            refine sch_done ?_
            refine schB_leaf ?_
            refine sch_done ?_
            have HE1 := Lib.hid (show wE.heap[gP]? = some (.cells (rtCs x) 29 (0, 0)) from by rw [hwE]; exact setRow_heap y5 gP _ (rtCs x) _ _ HROW.out)
            have HE2 := Lib.hid (show wE.heap[gx]? = some (.cells (rtCs x) 29 (0, 0)) from by rw [hwE]; exact (setRow_other y5 gP gx (rtCs x) (by have h1 := HGP.out; have h2 := (Array.getElem?_eq_some_iff.1 HX16.out).1; omega)).trans (rs_keep HFB.out HX16.out))
            have HE3 := Lib.hid (show FB w wE from by rw [hwE]; exact (HS16.out.fb.trans HFB.out).setRow (g := gP) (Nat.le_trans HS16.out.fb.le HGP.out) (rtCs x))
            clear hst2 hwE hops
            have qx := prow9 HE1.out
            have qy := prow9 HE2.out
            have HQ := rt_eql x x
            rw [rtEq_self] at HQ
            go_wp2
            go_ret
            exact ⟨rfl, HE3.out⟩
          · skip
            (refine sch_run (o := ?_) (v := ?_) (a' := ?_) (w' := ?_) (at_of hops.out ?_) ?_ ?_ ?_ ?_ ?_; rotate_left 4; (focus (simp only [List.getElem?_toArray, List.getElem?_cons_zero, List.getElem?_cons_succ]; rfl)); (focus (rw [hops.out]; rfl)); (focus (go_simp; constructor <;> with_reducible rfl)); (focus (exact Below.alloc (Below.refl _ _) HFB.out.le _)); (focus (simp only [Act.put, List.setIfInBounds_toArray, List.set_cons_zero, List.set_cons_succ]; rfl)))
            have HROW := Lib.hid (show (y3.alloc (.cells #[.int .u64 0, .int .u64 0, .int .u64 0, .int .u64 0, .int .u64 0, .int .u64 0, .int .u64 0, .int .u64 0, .int .u64 0] 29)).heap[y3.heap.size]? = some (.cells (rtCs rt0) 29 (0, 0)) from heap_alloc_new y3 (.cells #[.int .u64 0, .int .u64 0, .int .u64 0, .int .u64 0, .int .u64 0, .int .u64 0, .int .u64 0, .int .u64 0, .int .u64 0] 29))
            have HGP := Lib.hid (show w16.heap.size ≤ y3.heap.size from HFB.out.le)
            replace HIR := Lib.hid (((FB.refl y3).alloc (.cells #[.int .u64 0, .int .u64 0, .int .u64 0, .int .u64 0, .int .u64 0, .int .u64 0, .int .u64 0, .int .u64 0, .int .u64 0] 29)).rd HIR.out)
            replace HFB := Lib.hid (HFB.out.alloc (.cells #[.int .u64 0, .int .u64 0, .int .u64 0, .int .u64 0, .int .u64 0, .int .u64 0, .int .u64 0, .int .u64 0, .int .u64 0] 29))
            generalize y3.alloc _ = y6 at *
            generalize y3.heap.size = gP at *
            repeat (refine sch_take (o := ?_) (v := ?_) (a' := ?_) (at_of hops.out ?_) ?_ (fun W hW => ?_) ?_ ?_; rotate_left 3; (focus (simp only [List.getElem?_toArray, List.getElem?_cons_zero, List.getElem?_cons_succ]; rfl)); (focus (rw [hops.out]; rfl)); (focus (go_simp; with_reducible rfl)); (focus (simp only [Act.put, List.setIfInBounds_toArray, List.set_cons_zero, List.set_cons_succ]; rfl)))
            have hcr := r6_Read ((B2.drop 4096).take 4096) (some ⟨bI, oI + 4096, none⟩) (cI - 4096) y6 (by rw [HPL.out]; omega) (by rw [HPL.out]; have := HIC.out.1; omega) (by have := HIC.out.2; omega) ((HIR.out.drop 4096).take 4096)
            rw [HPX.out, HPL.out] at hcr
            unfold rtV rtCs at hcr
            have HCR := Lib.hid hcr
            clear hcr
            (refine sch_call (o := ?_) (f := ?_) (args := ?_) (at_of hops.out ?_) ?_ ?_ ?_; rotate_left 3; (focus (simp only [List.getElem?_toArray, List.getElem?_cons_zero, List.getElem?_cons_succ]; rfl)); (focus (rw [hops.out]; rfl)); (focus (go_simp; constructor <;> with_reducible rfl)); (first | ((with_reducible refine HCR.out.mono ?_); rintro e y7 ⟨rfl, hb⟩; refine ⟨_, rfl, (Below.mono hb HFB.out.le), ?_⟩; intro a' ha'; simp only [Act.put, List.setIfInBounds_toArray, List.set_cons_zero, List.set_cons_succ] at ha'; subst ha')))
            replace HROW := Lib.hid (rs_keep hb HROW.out)
            replace HFB := Lib.hid (HFB.out.trans hb)
            clear hb HCR
            repeat (refine sch_take (o := ?_) (v := ?_) (a' := ?_) (at_of hops.out ?_) ?_ (fun W hW => ?_) ?_ ?_; rotate_left 3; (focus (simp only [List.getElem?_toArray, List.getElem?_cons_zero, List.getElem?_cons_succ]; rfl)); (focus (rw [hops.out]; rfl)); (focus (go_simp; with_reducible rfl)); (focus (simp only [Act.put, List.setIfInBounds_toArray, List.set_cons_zero, List.set_cons_succ]; rfl)))
            have hst := rt_store rt0 x HROW.out
            unfold rtV rtCs at hst
            obtain ⟨wE, hwE⟩ : ∃ wE : World, wE = y7.setRow gP (rtCs x) := ⟨_, rfl⟩
            have hst2 : (Instr.storeAt 29 (.pointer (some ⟨gP, 0, none⟩)) (.agg #[.int .u64 (nb x.E), .int .u64 (nb x.P), .int .u64 (nb x.T), .int .u64 (nb x.S), .int .u64 (nb x.L), .int .u64 (nb x.a), .int .u64 (nb x.b), .int .u64 (nb x.c), .int .u64 (nb x.d)])).run Try.prog y7 = .ok () wE := by rw [hwE]; exact hst
            clear hst
            (refine sch_storeR (o := ?_) (at_of hops.out ?_) ?_ 29 (.tmp 15) (.tmp 120) ?_ ?_ (.pointer (some ⟨gP, 0, none⟩)) (.agg #[.int .u64 (nb x.E), .int .u64 (nb x.P), .int .u64 (nb x.T), .int .u64 (nb x.S), .int .u64 (nb x.L), .int .u64 (nb x.a), .int .u64 (nb x.b), .int .u64 (nb x.c), .int .u64 (nb x.d)]) ?_ ?_ hst2 (by rw [hwE]; exact below_setRow (Below.refl _ _) HGP.out _) ?_; rotate_left 1; (focus (simp only [List.getElem?_toArray, List.getElem?_cons_zero, List.getElem?_cons_succ]; rfl)); (focus (rw [hops.out]; rfl)); (focus rfl); (focus rfl); (focus rfl); (focus rfl))
            repeat (refine sch_take (o := ?_) (v := ?_) (a' := ?_) (at_of hops.out ?_) ?_ (fun W hW => ?_) ?_ ?_; rotate_left 3; (focus (simp only [List.getElem?_toArray, List.getElem?_cons_zero, List.getElem?_cons_succ]; rfl)); (focus (rw [hops.out]; rfl)); (focus (go_simp; with_reducible rfl)); (focus (simp only [Act.put, List.setIfInBounds_toArray, List.set_cons_zero, List.set_cons_succ]; rfl)))
            refine sch_done ?_
            refine schB_leaf ?_
            refine sch_done ?_
            have HE1 := Lib.hid (show wE.heap[gP]? = some (.cells (rtCs x) 29 (0, 0)) from by rw [hwE]; exact setRow_heap y7 gP _ (rtCs x) _ _ HROW.out)
            have HE2 := Lib.hid (show wE.heap[gx]? = some (.cells (rtCs x) 29 (0, 0)) from by rw [hwE]; exact (setRow_other y7 gP gx (rtCs x) (by have h1 := HGP.out; have h2 := (Array.getElem?_eq_some_iff.1 HX16.out).1; omega)).trans (rs_keep HFB.out HX16.out))
            have HE3 := Lib.hid (show FB w wE from by rw [hwE]; exact (HS16.out.fb.trans HFB.out).setRow (g := gP) (Nat.le_trans HS16.out.fb.le HGP.out) (rtCs x))
            clear hst2 hwE hops
            have qx := prow9 HE1.out
            have qy := prow9 HE2.out
            have HQ := rt_eql x x
            rw [rtEq_self] at HQ
            go_wp2
            go_ret
            exact ⟨rfl, HE3.out⟩
        · skip
          (refine sch_run (o := ?_) (v := ?_) (a' := ?_) (w' := ?_) (at_of hops.out ?_) ?_ ?_ ?_ ?_ ?_; rotate_left 4; (focus (simp only [List.getElem?_toArray, List.getElem?_cons_zero, List.getElem?_cons_succ]; rfl)); (focus (rw [hops.out]; rfl)); (focus (go_simp; constructor <;> with_reducible rfl)); (focus (exact Below.alloc (Below.refl _ _) HFB.out.le _)); (focus (simp only [Act.put, List.setIfInBounds_toArray, List.set_cons_zero, List.set_cons_succ]; rfl)))
          have HROW := Lib.hid (show (y2.alloc (.cells #[.int .u64 0, .int .u64 0, .int .u64 0, .int .u64 0, .int .u64 0, .int .u64 0, .int .u64 0, .int .u64 0, .int .u64 0] 29)).heap[y2.heap.size]? = some (.cells (rtCs rt0) 29 (0, 0)) from heap_alloc_new y2 (.cells #[.int .u64 0, .int .u64 0, .int .u64 0, .int .u64 0, .int .u64 0, .int .u64 0, .int .u64 0, .int .u64 0, .int .u64 0] 29))
          have HGP := Lib.hid (show w16.heap.size ≤ y2.heap.size from HFB.out.le)
          replace HIR := Lib.hid (((FB.refl y2).alloc (.cells #[.int .u64 0, .int .u64 0, .int .u64 0, .int .u64 0, .int .u64 0, .int .u64 0, .int .u64 0, .int .u64 0, .int .u64 0] 29)).rd HIR.out)
          replace HFB := Lib.hid (HFB.out.alloc (.cells #[.int .u64 0, .int .u64 0, .int .u64 0, .int .u64 0, .int .u64 0, .int .u64 0, .int .u64 0, .int .u64 0, .int .u64 0] 29))
          generalize y2.alloc _ = y8 at *
          generalize y2.heap.size = gP at *
          repeat (refine sch_take (o := ?_) (v := ?_) (a' := ?_) (at_of hops.out ?_) ?_ (fun W hW => ?_) ?_ ?_; rotate_left 3; (focus (simp only [List.getElem?_toArray, List.getElem?_cons_zero, List.getElem?_cons_succ]; rfl)); (focus (rw [hops.out]; rfl)); (focus (go_simp; with_reducible rfl)); (focus (simp only [Act.put, List.setIfInBounds_toArray, List.set_cons_zero, List.set_cons_succ]; rfl)))
          (refine sch_call (o := ?_) (f := ?_) (args := ?_) (at_of hops.out ?_) ?_ ?_ ?_; rotate_left 3; (focus (simp only [List.getElem?_toArray, List.getElem?_cons_zero, List.getElem?_cons_succ]; rfl)); (focus (rw [hops.out]; rfl)); (focus (go_simp; constructor <;> with_reducible rfl)); (first | ((with_reducible refine (HSLT.out _).mono ?_); rintro e y9 ⟨rfl, hb⟩; refine ⟨_, rfl, (Below.mono hb HFB.out.le), ?_⟩; intro a' ha'; simp only [Act.put, List.setIfInBounds_toArray, List.set_cons_zero, List.set_cons_succ] at ha'; subst ha')))
          replace HROW := Lib.hid (rs_keep hb HROW.out)
          replace HIR := Lib.hid (hb.rd HIR.out)
          replace HFB := Lib.hid (HFB.out.trans hb)
          clear hb
          repeat (refine sch_take (o := ?_) (v := ?_) (a' := ?_) (at_of hops.out ?_) ?_ (fun W hW => ?_) ?_ ?_; rotate_left 3; (focus (simp only [List.getElem?_toArray, List.getElem?_cons_zero, List.getElem?_cons_succ]; rfl)); (focus (rw [hops.out]; rfl)); (focus (go_simp; with_reducible rfl)); (focus (simp only [Act.put, List.setIfInBounds_toArray, List.set_cons_zero, List.set_cons_succ]; rfl)))
          have hcr := r6_Read ((B2.drop 4096).take 4096) (some ⟨bI, oI + 4096, none⟩) (cI - 4096) y9 (by rw [HPL.out]; omega) (by rw [HPL.out]; have := HIC.out.1; omega) (by have := HIC.out.2; omega) ((HIR.out.drop 4096).take 4096)
          rw [HPX.out, HPL.out] at hcr
          unfold rtV rtCs at hcr
          have HCR := Lib.hid hcr
          clear hcr
          (refine sch_call (o := ?_) (f := ?_) (args := ?_) (at_of hops.out ?_) ?_ ?_ ?_; rotate_left 3; (focus (simp only [List.getElem?_toArray, List.getElem?_cons_zero, List.getElem?_cons_succ]; rfl)); (focus (rw [hops.out]; rfl)); (focus (go_simp; constructor <;> with_reducible rfl)); (first | ((with_reducible refine HCR.out.mono ?_); rintro e y10 ⟨rfl, hb⟩; refine ⟨_, rfl, (Below.mono hb HFB.out.le), ?_⟩; intro a' ha'; simp only [Act.put, List.setIfInBounds_toArray, List.set_cons_zero, List.set_cons_succ] at ha'; subst ha')))
          replace HROW := Lib.hid (rs_keep hb HROW.out)
          replace HFB := Lib.hid (HFB.out.trans hb)
          clear hb HCR
          repeat (refine sch_take (o := ?_) (v := ?_) (a' := ?_) (at_of hops.out ?_) ?_ (fun W hW => ?_) ?_ ?_; rotate_left 3; (focus (simp only [List.getElem?_toArray, List.getElem?_cons_zero, List.getElem?_cons_succ]; rfl)); (focus (rw [hops.out]; rfl)); (focus (go_simp; with_reducible rfl)); (focus (simp only [Act.put, List.setIfInBounds_toArray, List.set_cons_zero, List.set_cons_succ]; rfl)))
          have hst := rt_store rt0 x HROW.out
          unfold rtV rtCs at hst
          obtain ⟨wE, hwE⟩ : ∃ wE : World, wE = y10.setRow gP (rtCs x) := ⟨_, rfl⟩
          have hst2 : (Instr.storeAt 29 (.pointer (some ⟨gP, 0, none⟩)) (.agg #[.int .u64 (nb x.E), .int .u64 (nb x.P), .int .u64 (nb x.T), .int .u64 (nb x.S), .int .u64 (nb x.L), .int .u64 (nb x.a), .int .u64 (nb x.b), .int .u64 (nb x.c), .int .u64 (nb x.d)])).run Try.prog y10 = .ok () wE := by rw [hwE]; exact hst
          clear hst
          (refine sch_storeR (o := ?_) (at_of hops.out ?_) ?_ 29 (.tmp 15) (.tmp 120) ?_ ?_ (.pointer (some ⟨gP, 0, none⟩)) (.agg #[.int .u64 (nb x.E), .int .u64 (nb x.P), .int .u64 (nb x.T), .int .u64 (nb x.S), .int .u64 (nb x.L), .int .u64 (nb x.a), .int .u64 (nb x.b), .int .u64 (nb x.c), .int .u64 (nb x.d)]) ?_ ?_ hst2 (by rw [hwE]; exact below_setRow (Below.refl _ _) HGP.out _) ?_; rotate_left 1; (focus (simp only [List.getElem?_toArray, List.getElem?_cons_zero, List.getElem?_cons_succ]; rfl)); (focus (rw [hops.out]; rfl)); (focus rfl); (focus rfl); (focus rfl); (focus rfl))
          repeat (refine sch_take (o := ?_) (v := ?_) (a' := ?_) (at_of hops.out ?_) ?_ (fun W hW => ?_) ?_ ?_; rotate_left 3; (focus (simp only [List.getElem?_toArray, List.getElem?_cons_zero, List.getElem?_cons_succ]; rfl)); (focus (rw [hops.out]; rfl)); (focus (go_simp; with_reducible rfl)); (focus (simp only [Act.put, List.setIfInBounds_toArray, List.set_cons_zero, List.set_cons_succ]; rfl)))
          refine sch_done ?_
          refine schB_leaf ?_
          refine sch_done ?_
          have HE1 := Lib.hid (show wE.heap[gP]? = some (.cells (rtCs x) 29 (0, 0)) from by rw [hwE]; exact setRow_heap y10 gP _ (rtCs x) _ _ HROW.out)
          have HE2 := Lib.hid (show wE.heap[gx]? = some (.cells (rtCs x) 29 (0, 0)) from by rw [hwE]; exact (setRow_other y10 gP gx (rtCs x) (by have h1 := HGP.out; have h2 := (Array.getElem?_eq_some_iff.1 HX16.out).1; omega)).trans (rs_keep HFB.out HX16.out))
          have HE3 := Lib.hid (show FB w wE from by rw [hwE]; exact (HS16.out.fb.trans HFB.out).setRow (g := gP) (Nat.le_trans HS16.out.fb.le HGP.out) (rtCs x))
          clear hst2 hwE hops
          have qx := prow9 HE1.out
          have qy := prow9 HE2.out
          have HQ := rt_eql x x
          rw [rtEq_self] at HQ
          go_wp2
          go_ret
          exact ⟨rfl, HE3.out⟩
      · skip
        (refine sch_run (o := ?_) (v := ?_) (a' := ?_) (w' := ?_) (at_of hops.out ?_) ?_ ?_ ?_ ?_ ?_; rotate_left 4; (focus (simp only [List.getElem?_toArray, List.getElem?_cons_zero, List.getElem?_cons_succ]; rfl)); (focus (rw [hops.out]; rfl)); (focus (go_simp; constructor <;> with_reducible rfl)); (focus (exact Below.alloc (Below.refl _ _) HFB.out.le _)); (focus (simp only [Act.put, List.setIfInBounds_toArray, List.set_cons_zero, List.set_cons_succ]; rfl)))
        have HROW := Lib.hid (show (y1.alloc (.cells #[.int .u64 0, .int .u64 0, .int .u64 0, .int .u64 0, .int .u64 0, .int .u64 0, .int .u64 0, .int .u64 0, .int .u64 0] 29)).heap[y1.heap.size]? = some (.cells (rtCs rt0) 29 (0, 0)) from heap_alloc_new y1 (.cells #[.int .u64 0, .int .u64 0, .int .u64 0, .int .u64 0, .int .u64 0, .int .u64 0, .int .u64 0, .int .u64 0, .int .u64 0] 29))
        have HGP := Lib.hid (show w16.heap.size ≤ y1.heap.size from HFB.out.le)
        replace HIR := Lib.hid (((FB.refl y1).alloc (.cells #[.int .u64 0, .int .u64 0, .int .u64 0, .int .u64 0, .int .u64 0, .int .u64 0, .int .u64 0, .int .u64 0, .int .u64 0] 29)).rd HIR.out)
        replace HFB := Lib.hid (HFB.out.alloc (.cells #[.int .u64 0, .int .u64 0, .int .u64 0, .int .u64 0, .int .u64 0, .int .u64 0, .int .u64 0, .int .u64 0, .int .u64 0] 29))
        generalize y1.alloc _ = y11 at *
        generalize y1.heap.size = gP at *
        repeat (refine sch_take (o := ?_) (v := ?_) (a' := ?_) (at_of hops.out ?_) ?_ (fun W hW => ?_) ?_ ?_; rotate_left 3; (focus (simp only [List.getElem?_toArray, List.getElem?_cons_zero, List.getElem?_cons_succ]; rfl)); (focus (rw [hops.out]; rfl)); (focus (go_simp; with_reducible rfl)); (focus (simp only [Act.put, List.setIfInBounds_toArray, List.set_cons_zero, List.set_cons_succ]; rfl)))
        (refine sch_call (o := ?_) (f := ?_) (args := ?_) (at_of hops.out ?_) ?_ ?_ ?_; rotate_left 3; (focus (simp only [List.getElem?_toArray, List.getElem?_cons_zero, List.getElem?_cons_succ]; rfl)); (focus (rw [hops.out]; rfl)); (focus (go_simp; constructor <;> with_reducible rfl)); (first | ((with_reducible refine (HSLT.out _).mono ?_); rintro e y12 ⟨rfl, hb⟩; refine ⟨_, rfl, (Below.mono hb HFB.out.le), ?_⟩; intro a' ha'; simp only [Act.put, List.setIfInBounds_toArray, List.set_cons_zero, List.set_cons_succ] at ha'; subst ha')))
        replace HROW := Lib.hid (rs_keep hb HROW.out)
        replace HIR := Lib.hid (hb.rd HIR.out)
        replace HFB := Lib.hid (HFB.out.trans hb)
        clear hb
        repeat (refine sch_take (o := ?_) (v := ?_) (a' := ?_) (at_of hops.out ?_) ?_ (fun W hW => ?_) ?_ ?_; rotate_left 3; (focus (simp only [List.getElem?_toArray, List.getElem?_cons_zero, List.getElem?_cons_succ]; rfl)); (focus (rw [hops.out]; rfl)); (focus (go_simp; with_reducible rfl)); (focus (simp only [Act.put, List.setIfInBounds_toArray, List.set_cons_zero, List.set_cons_succ]; rfl)))
        (refine sch_call (o := ?_) (f := ?_) (args := ?_) (at_of hops.out ?_) ?_ ?_ ?_; rotate_left 3; (focus (simp only [List.getElem?_toArray, List.getElem?_cons_zero, List.getElem?_cons_succ]; rfl)); (focus (rw [hops.out]; rfl)); (focus (go_simp; constructor <;> with_reducible rfl)); (first | ((with_reducible refine (HSLT.out _).mono ?_); rintro e y13 ⟨rfl, hb⟩; refine ⟨_, rfl, (Below.mono hb HFB.out.le), ?_⟩; intro a' ha'; simp only [Act.put, List.setIfInBounds_toArray, List.set_cons_zero, List.set_cons_succ] at ha'; subst ha')))
        replace HROW := Lib.hid (rs_keep hb HROW.out)
        replace HIR := Lib.hid (hb.rd HIR.out)
        replace HFB := Lib.hid (HFB.out.trans hb)
        clear hb
        repeat (refine sch_take (o := ?_) (v := ?_) (a' := ?_) (at_of hops.out ?_) ?_ (fun W hW => ?_) ?_ ?_; rotate_left 3; (focus (simp only [List.getElem?_toArray, List.getElem?_cons_zero, List.getElem?_cons_succ]; rfl)); (focus (rw [hops.out]; rfl)); (focus (go_simp; with_reducible rfl)); (focus (simp only [Act.put, List.setIfInBounds_toArray, List.set_cons_zero, List.set_cons_succ]; rfl)))
        have hcr := r6_Read ((B2.drop 4096).take 4096) (some ⟨bI, oI + 4096, none⟩) (cI - 4096) y13 (by rw [HPL.out]; omega) (by rw [HPL.out]; have := HIC.out.1; omega) (by have := HIC.out.2; omega) ((HIR.out.drop 4096).take 4096)
        rw [HPX.out, HPL.out] at hcr
        unfold rtV rtCs at hcr
        have HCR := Lib.hid hcr
        clear hcr
        (refine sch_call (o := ?_) (f := ?_) (args := ?_) (at_of hops.out ?_) ?_ ?_ ?_; rotate_left 3; (focus (simp only [List.getElem?_toArray, List.getElem?_cons_zero, List.getElem?_cons_succ]; rfl)); (focus (rw [hops.out]; rfl)); (focus (go_simp; constructor <;> with_reducible rfl)); (first | ((with_reducible refine HCR.out.mono ?_); rintro e y14 ⟨rfl, hb⟩; refine ⟨_, rfl, (Below.mono hb HFB.out.le), ?_⟩; intro a' ha'; simp only [Act.put, List.setIfInBounds_toArray, List.set_cons_zero, List.set_cons_succ] at ha'; subst ha')))
        replace HROW := Lib.hid (rs_keep hb HROW.out)
        replace HFB := Lib.hid (HFB.out.trans hb)
        clear hb HCR
        repeat (refine sch_take (o := ?_) (v := ?_) (a' := ?_) (at_of hops.out ?_) ?_ (fun W hW => ?_) ?_ ?_; rotate_left 3; (focus (simp only [List.getElem?_toArray, List.getElem?_cons_zero, List.getElem?_cons_succ]; rfl)); (focus (rw [hops.out]; rfl)); (focus (go_simp; with_reducible rfl)); (focus (simp only [Act.put, List.setIfInBounds_toArray, List.set_cons_zero, List.set_cons_succ]; rfl)))
        have hst := rt_store rt0 x HROW.out
        unfold rtV rtCs at hst
        obtain ⟨wE, hwE⟩ : ∃ wE : World, wE = y14.setRow gP (rtCs x) := ⟨_, rfl⟩
        have hst2 : (Instr.storeAt 29 (.pointer (some ⟨gP, 0, none⟩)) (.agg #[.int .u64 (nb x.E), .int .u64 (nb x.P), .int .u64 (nb x.T), .int .u64 (nb x.S), .int .u64 (nb x.L), .int .u64 (nb x.a), .int .u64 (nb x.b), .int .u64 (nb x.c), .int .u64 (nb x.d)])).run Try.prog y14 = .ok () wE := by rw [hwE]; exact hst
        clear hst
        (refine sch_storeR (o := ?_) (at_of hops.out ?_) ?_ 29 (.tmp 15) (.tmp 120) ?_ ?_ (.pointer (some ⟨gP, 0, none⟩)) (.agg #[.int .u64 (nb x.E), .int .u64 (nb x.P), .int .u64 (nb x.T), .int .u64 (nb x.S), .int .u64 (nb x.L), .int .u64 (nb x.a), .int .u64 (nb x.b), .int .u64 (nb x.c), .int .u64 (nb x.d)]) ?_ ?_ hst2 (by rw [hwE]; exact below_setRow (Below.refl _ _) HGP.out _) ?_; rotate_left 1; (focus (simp only [List.getElem?_toArray, List.getElem?_cons_zero, List.getElem?_cons_succ]; rfl)); (focus (rw [hops.out]; rfl)); (focus rfl); (focus rfl); (focus rfl); (focus rfl))
        repeat (refine sch_take (o := ?_) (v := ?_) (a' := ?_) (at_of hops.out ?_) ?_ (fun W hW => ?_) ?_ ?_; rotate_left 3; (focus (simp only [List.getElem?_toArray, List.getElem?_cons_zero, List.getElem?_cons_succ]; rfl)); (focus (rw [hops.out]; rfl)); (focus (go_simp; with_reducible rfl)); (focus (simp only [Act.put, List.setIfInBounds_toArray, List.set_cons_zero, List.set_cons_succ]; rfl)))
        refine sch_done ?_
        refine schB_leaf ?_
        refine sch_done ?_
        have HE1 := Lib.hid (show wE.heap[gP]? = some (.cells (rtCs x) 29 (0, 0)) from by rw [hwE]; exact setRow_heap y14 gP _ (rtCs x) _ _ HROW.out)
        have HE2 := Lib.hid (show wE.heap[gx]? = some (.cells (rtCs x) 29 (0, 0)) from by rw [hwE]; exact (setRow_other y14 gP gx (rtCs x) (by have h1 := HGP.out; have h2 := (Array.getElem?_eq_some_iff.1 HX16.out).1; omega)).trans (rs_keep HFB.out HX16.out))
        have HE3 := Lib.hid (show FB w wE from by rw [hwE]; exact (HS16.out.fb.trans HFB.out).setRow (g := gP) (Nat.le_trans HS16.out.fb.le HGP.out) (rtCs x))
        clear hst2 hwE hops
        have qx := prow9 HE1.out
        have qy := prow9 HE2.out
        have HQ := rt_eql x x
        rw [rtEq_self] at HQ
        go_wp2
        go_ret
        exact ⟨rfl, HE3.out⟩
    · skip
      (refine sch_run (o := ?_) (v := ?_) (a' := ?_) (w' := ?_) (at_of hops.out ?_) ?_ ?_ ?_ ?_ ?_; rotate_left 4; (focus (simp only [List.getElem?_toArray, List.getElem?_cons_zero, List.getElem?_cons_succ]; rfl)); (focus (rw [hops.out]; rfl)); (focus (go_simp; constructor <;> with_reducible rfl)); (focus (exact Below.alloc (Below.refl _ _) HFB.out.le _)); (focus (simp only [Act.put, List.setIfInBounds_toArray, List.set_cons_zero, List.set_cons_succ]; rfl)))
      have HROW := Lib.hid (show (wF0.alloc (.cells #[.int .u64 0, .int .u64 0, .int .u64 0, .int .u64 0, .int .u64 0, .int .u64 0, .int .u64 0, .int .u64 0, .int .u64 0] 29)).heap[wF0.heap.size]? = some (.cells (rtCs rt0) 29 (0, 0)) from heap_alloc_new wF0 (.cells #[.int .u64 0, .int .u64 0, .int .u64 0, .int .u64 0, .int .u64 0, .int .u64 0, .int .u64 0, .int .u64 0, .int .u64 0] 29))
      have HGP := Lib.hid (show w16.heap.size ≤ wF0.heap.size from HFB.out.le)
      replace HFB := Lib.hid (HFB.out.alloc (.cells #[.int .u64 0, .int .u64 0, .int .u64 0, .int .u64 0, .int .u64 0, .int .u64 0, .int .u64 0, .int .u64 0, .int .u64 0] 29))
      generalize wF0.alloc _ = y15 at *
      generalize wF0.heap.size = gP at *
      repeat (refine sch_take (o := ?_) (v := ?_) (a' := ?_) (at_of hops.out ?_) ?_ (fun W hW => ?_) ?_ ?_; rotate_left 3; (focus (simp only [List.getElem?_toArray, List.getElem?_cons_zero, List.getElem?_cons_succ]; rfl)); (focus (rw [hops.out]; rfl)); (focus (go_simp; with_reducible rfl)); (focus (simp only [Act.put, List.setIfInBounds_toArray, List.set_cons_zero, List.set_cons_succ]; rfl)))
      (refine sch_call (o := ?_) (f := ?_) (args := ?_) (at_of hops.out ?_) ?_ ?_ ?_; rotate_left 3; (focus (simp only [List.getElem?_toArray, List.getElem?_cons_zero, List.getElem?_cons_succ]; rfl)); (focus (rw [hops.out]; rfl)); (focus (go_simp; constructor <;> with_reducible rfl)); (first | ((with_reducible refine (HIM.out _ HFB.out).mono ?_); rintro e y16 ⟨bI, oI, cI, rfl, hr, h1, h2, hb⟩; refine ⟨_, rfl, (Below.mono hb HFB.out.le), ?_⟩; intro a' ha'; simp only [Act.put, List.setIfInBounds_toArray, List.set_cons_zero, List.set_cons_succ] at ha'; subst ha')))
      have HIR := Lib.hid hr
      have HIC := Lib.hid (And.intro h1 h2)
      have hc1 : (8192 : Int) ≤ (cI : Int) := by omega
      have hc2 : (4096 : Int) ≤ (cI : Int) := by omega
      have hc3 : (cI : Int) ≤ 9223372036854775807 := by unfold maxLen at h2; omega
      have hc4 : ¬ cI = 4096 := by omega
      replace HROW := Lib.hid (rs_keep hb HROW.out)
      replace HFB := Lib.hid (HFB.out.trans hb)
      clear hb hr h1 h2
      repeat (refine sch_take (o := ?_) (v := ?_) (a' := ?_) (at_of hops.out ?_) ?_ (fun W hW => ?_) ?_ ?_; rotate_left 3; (focus (simp only [List.getElem?_toArray, List.getElem?_cons_zero, List.getElem?_cons_succ]; rfl)); (focus (rw [hops.out]; rfl)); (focus (go_simp; with_reducible rfl)); (focus (simp only [Act.put, List.setIfInBounds_toArray, List.set_cons_zero, List.set_cons_succ]; rfl)))
      (refine sch_call (o := ?_) (f := ?_) (args := ?_) (at_of hops.out ?_) ?_ ?_ ?_; rotate_left 3; (focus (simp only [List.getElem?_toArray, List.getElem?_cons_zero, List.getElem?_cons_succ]; rfl)); (focus (rw [hops.out]; rfl)); (focus (go_simp; constructor <;> with_reducible rfl)); (first | ((with_reducible refine (HSLT.out _).mono ?_); rintro e y17 ⟨rfl, hb⟩; refine ⟨_, rfl, (Below.mono hb HFB.out.le), ?_⟩; intro a' ha'; simp only [Act.put, List.setIfInBounds_toArray, List.set_cons_zero, List.set_cons_succ] at ha'; subst ha')))
      replace HROW := Lib.hid (rs_keep hb HROW.out)
      replace HIR := Lib.hid (hb.rd HIR.out)
      replace HFB := Lib.hid (HFB.out.trans hb)
      clear hb
      repeat (refine sch_take (o := ?_) (v := ?_) (a' := ?_) (at_of hops.out ?_) ?_ (fun W hW => ?_) ?_ ?_; rotate_left 3; (focus (simp only [List.getElem?_toArray, List.getElem?_cons_zero, List.getElem?_cons_succ]; rfl)); (focus (rw [hops.out]; rfl)); (focus (go_simp; with_reducible rfl)); (focus (simp only [Act.put, List.setIfInBounds_toArray, List.set_cons_zero, List.set_cons_succ]; rfl)))
      (refine sch_call (o := ?_) (f := ?_) (args := ?_) (at_of hops.out ?_) ?_ ?_ ?_; rotate_left 3; (focus (simp only [List.getElem?_toArray, List.getElem?_cons_zero, List.getElem?_cons_succ]; rfl)); (focus (rw [hops.out]; rfl)); (focus (go_simp; constructor <;> with_reducible rfl)); (first | ((with_reducible refine (HSLT.out _).mono ?_); rintro e y18 ⟨rfl, hb⟩; refine ⟨_, rfl, (Below.mono hb HFB.out.le), ?_⟩; intro a' ha'; simp only [Act.put, List.setIfInBounds_toArray, List.set_cons_zero, List.set_cons_succ] at ha'; subst ha')))
      replace HROW := Lib.hid (rs_keep hb HROW.out)
      replace HIR := Lib.hid (hb.rd HIR.out)
      replace HFB := Lib.hid (HFB.out.trans hb)
      clear hb
      repeat (refine sch_take (o := ?_) (v := ?_) (a' := ?_) (at_of hops.out ?_) ?_ (fun W hW => ?_) ?_ ?_; rotate_left 3; (focus (simp only [List.getElem?_toArray, List.getElem?_cons_zero, List.getElem?_cons_succ]; rfl)); (focus (rw [hops.out]; rfl)); (focus (go_simp; with_reducible rfl)); (focus (simp only [Act.put, List.setIfInBounds_toArray, List.set_cons_zero, List.set_cons_succ]; rfl)))
      have hcr := r6_Read ((B2.drop 4096).take 4096) (some ⟨bI, oI + 4096, none⟩) (cI - 4096) y18 (by rw [HPL.out]; omega) (by rw [HPL.out]; have := HIC.out.1; omega) (by have := HIC.out.2; omega) ((HIR.out.drop 4096).take 4096)
      rw [HPX.out, HPL.out] at hcr
      unfold rtV rtCs at hcr
      have HCR := Lib.hid hcr
      clear hcr
      (refine sch_call (o := ?_) (f := ?_) (args := ?_) (at_of hops.out ?_) ?_ ?_ ?_; rotate_left 3; (focus (simp only [List.getElem?_toArray, List.getElem?_cons_zero, List.getElem?_cons_succ]; rfl)); (focus (rw [hops.out]; rfl)); (focus (go_simp; constructor <;> with_reducible rfl)); (first | ((with_reducible refine HCR.out.mono ?_); rintro e y19 ⟨rfl, hb⟩; refine ⟨_, rfl, (Below.mono hb HFB.out.le), ?_⟩; intro a' ha'; simp only [Act.put, List.setIfInBounds_toArray, List.set_cons_zero, List.set_cons_succ] at ha'; subst ha')))
      replace HROW := Lib.hid (rs_keep hb HROW.out)
      replace HFB := Lib.hid (HFB.out.trans hb)
      clear hb HCR
      repeat (refine sch_take (o := ?_) (v := ?_) (a' := ?_) (at_of hops.out ?_) ?_ (fun W hW => ?_) ?_ ?_; rotate_left 3; (focus (simp only [List.getElem?_toArray, List.getElem?_cons_zero, List.getElem?_cons_succ]; rfl)); (focus (rw [hops.out]; rfl)); (focus (go_simp; with_reducible rfl)); (focus (simp only [Act.put, List.setIfInBounds_toArray, List.set_cons_zero, List.set_cons_succ]; rfl)))
      have hst := rt_store rt0 x HROW.out
      unfold rtV rtCs at hst
      obtain ⟨wE, hwE⟩ : ∃ wE : World, wE = y19.setRow gP (rtCs x) := ⟨_, rfl⟩
      have hst2 : (Instr.storeAt 29 (.pointer (some ⟨gP, 0, none⟩)) (.agg #[.int .u64 (nb x.E), .int .u64 (nb x.P), .int .u64 (nb x.T), .int .u64 (nb x.S), .int .u64 (nb x.L), .int .u64 (nb x.a), .int .u64 (nb x.b), .int .u64 (nb x.c), .int .u64 (nb x.d)])).run Try.prog y19 = .ok () wE := by rw [hwE]; exact hst
      clear hst
      (refine sch_storeR (o := ?_) (at_of hops.out ?_) ?_ 29 (.tmp 15) (.tmp 120) ?_ ?_ (.pointer (some ⟨gP, 0, none⟩)) (.agg #[.int .u64 (nb x.E), .int .u64 (nb x.P), .int .u64 (nb x.T), .int .u64 (nb x.S), .int .u64 (nb x.L), .int .u64 (nb x.a), .int .u64 (nb x.b), .int .u64 (nb x.c), .int .u64 (nb x.d)]) ?_ ?_ hst2 (by rw [hwE]; exact below_setRow (Below.refl _ _) HGP.out _) ?_; rotate_left 1; (focus (simp only [List.getElem?_toArray, List.getElem?_cons_zero, List.getElem?_cons_succ]; rfl)); (focus (rw [hops.out]; rfl)); (focus rfl); (focus rfl); (focus rfl); (focus rfl))
      repeat (refine sch_take (o := ?_) (v := ?_) (a' := ?_) (at_of hops.out ?_) ?_ (fun W hW => ?_) ?_ ?_; rotate_left 3; (focus (simp only [List.getElem?_toArray, List.getElem?_cons_zero, List.getElem?_cons_succ]; rfl)); (focus (rw [hops.out]; rfl)); (focus (go_simp; with_reducible rfl)); (focus (simp only [Act.put, List.setIfInBounds_toArray, List.set_cons_zero, List.set_cons_succ]; rfl)))
      refine sch_done ?_
      refine schB_leaf ?_
      refine sch_done ?_
      have HE1 := Lib.hid (show wE.heap[gP]? = some (.cells (rtCs x) 29 (0, 0)) from by rw [hwE]; exact setRow_heap y19 gP _ (rtCs x) _ _ HROW.out)
      have HE2 := Lib.hid (show wE.heap[gx]? = some (.cells (rtCs x) 29 (0, 0)) from by rw [hwE]; exact (setRow_other y19 gP gx (rtCs x) (by have h1 := HGP.out; have h2 := (Array.getElem?_eq_some_iff.1 HX16.out).1; omega)).trans (rs_keep HFB.out HX16.out))
      have HE3 := Lib.hid (show FB w wE from by rw [hwE]; exact (HS16.out.fb.trans HFB.out).setRow (g := gP) (Nat.le_trans HS16.out.fb.le HGP.out) (rtCs x))
      clear hst2 hwE hops
      have qx := prow9 HE1.out
      have qy := prow9 HE2.out
      have HQ := rt_eql x x
      rw [rtEq_self] at HQ
      go_wp2
      go_ret
      exact ⟨rfl, HE3.out⟩
end Go.Proofs.Ytihljjfnjclefaa
