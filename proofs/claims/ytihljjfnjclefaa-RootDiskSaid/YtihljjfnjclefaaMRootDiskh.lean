/- The walk through RootDisk. -/
import Derived.Test.YtihljjfnjclefaaMRta
import Derived.Test.YtihljjfnjclefaaMRtb
import Derived.Test.YtihljjfnjclefaaMRtc
import Derived.Test.YtihljjfnjclefaaMRtd
import Derived.Test.YtihljjfnjclefaaMRte
import Derived.Test.YtihljjfnjclefaaMRtf
import Derived.Test.YtihljjfnjclefaaMRtg
import Derived.Test.YtihljjfnjclefaaMRth
import Derived.Test.YtihljjfnjclefaaMRti
import Derived.Test.YtihljjfnjclefaaMRtj
import Derived.Test.YtihljjfnjclefaaMRtk
import Derived.Test.YtihljjfnjclefaaMRtl
import Derived.Test.YtihljjfnjclefaaMRootDiska
import Derived.Test.YtihljjfnjclefaaMRootDiskb
import Derived.Test.YtihljjfnjclefaaMRootDiskc
import Derived.Test.YtihljjfnjclefaaMRootDiskd
import Derived.Test.YtihljjfnjclefaaMRootDiske
import Derived.Test.YtihljjfnjclefaaMRootDiskf
import Derived.Test.YtihljjfnjclefaaMRootDiskg
set_option linter.unusedVariables false
set_option linter.unusedSimpArgs false
namespace Go.Proofs.Ytihljjfnjclefaa
open Go.ChangeShapes Go.WideShapes Go.ChangeAt Go.RowKit
attribute [local go_sem] nb_nonneg nb_lt8 nb_lt64
set_option maxRecDepth 100000

section
variable {w0 w w' : World} {F G : List Nat} {g h n : Nat} {D D2 D' : DiskSt}
theorem Two.stepDi (t : Two w0 w F g G h n D D2) (k : DskRes w F g n D' w') : ∃ F', Two w0 w' F' g G h n D' D2 ∧ TS F w w' ∧ ∀ x ∈ F', x ∈ F ∨ w.heap.size ≤ x := by
  obtain ⟨F', h1, h2, h3⟩ := t.dw.res k
  refine ⟨F', ⟨h1, t.rd.ts h2 t.dj, t.own, fun x hx hg => ?_⟩, h2, h3⟩
  rcases h3 x hx with h' | h'
  · exact t.dj x h' hg
  · have := t.rd.lt x hg; omega
theorem Two.stepRi (t : Two w0 w F g G h n D D2) (k : RRes w G h n D' w') : ∃ G', Two w0 w' F g G' h n D D' ∧ TS G w w' ∧ ∀ x ∈ G', x ∈ G ∨ w.heap.size ≤ x := by
  obtain ⟨G', h1, h2, h3⟩ := k
  have hd : ∀ x ∈ G, x ∉ F := fun x hx hf => t.dj x hf hx
  refine ⟨G', ⟨⟨t.dw.dsk.ts h3 hd, t.dw.fb.ts h3 t.own, t.dw.own⟩, h2, fun x hx => ?_, fun x hx hg => ?_⟩, h3, h1⟩
  · rcases h1 x hx with h' | h'
    · exact t.own x h'
    · exact Nat.le_trans t.dw.fb.le h'
  · rcases h1 x hg with h' | h'
    · exact t.dj x hx h'
    · have := t.dw.dsk.lt x hx; omega
end
theorem rd_keep {w W : World} (h : FB w W) {g : Nat} {o : Obj} (hg : w.heap[g]? = some o) : W.heap[g]? = some o := (h.block _ (Array.getElem?_eq_some_iff.1 hg).1).trans hg
theorem rd_cells {w : World} {b o : Nat} {r : Rt} (h : ∀ j, j < 9 → w.cell? ⟨b, o + j, none⟩ = some ((rtCs r).getD j undef)) :
    w.cell? ⟨b, o, none⟩ = some (.int .u64 (nb r.E)) ∧ w.cell? ⟨b, o + 1, none⟩ = some (.int .u64 (nb r.P)) ∧ w.cell? ⟨b, o + 2, none⟩ = some (.int .u64 (nb r.T)) ∧ w.cell? ⟨b, o + 3, none⟩ = some (.int .u64 (nb r.S)) ∧ w.cell? ⟨b, o + 4, none⟩ = some (.int .u64 (nb r.L)) ∧
    w.cell? ⟨b, o + 5, none⟩ = some (.int .u64 (nb r.a)) ∧ w.cell? ⟨b, o + 6, none⟩ = some (.int .u64 (nb r.b)) ∧ w.cell? ⟨b, o + 7, none⟩ = some (.int .u64 (nb r.c)) ∧ w.cell? ⟨b, o + 8, none⟩ = some (.int .u64 (nb r.d)) :=
  ⟨h 0 (by omega), h 1 (by omega), h 2 (by omega), h 3 (by omega), h 4 (by omega), h 5 (by omega), h 6 (by omega), h 7 (by omega), h 8 (by omega)⟩
set_option maxHeartbeats 4000000 in
theorem rootDisk_walk (zs0 : Int) (A : Option Addr) (c : Nat) (ls : List Rt) (zf : Int) (KA : Option Addr) (kc : Nat) (ks : List Bool) (T Y : Int) (w : World) (hzs : -9223372036854775808 ≤ zs0 ∧ zs0 ≤ 9223372036854775807) (hlc : ls.length ≤ c) (hlm : c ≤ maxLen) (hlr : RdRs w A ls) (hzf : -9223372036854775808 ≤ zf ∧ zf ≤ 9223372036854775807) (hkl : ks.length ≤ kc) (hkm : kc ≤ maxLen) (hkr : RdV w KA (ks.map .bool)) (hT : -9223372036854775808 ≤ T ∧ T ≤ 9223372036854775807) (hY : -9223372036854775808 ≤ Y ∧ Y ≤ 9223372036854775807) :
    Calls Try.prog 7 #[.int .i64 zs0, .slice A ls.length c, .int .i64 zf, .agg #[.slice KA ks.length kc, .int .i64 T, .int .i64 Y]] w fun e w' => e = .returned (.bool true) ∧ Below w.heap.size w w' := by
  have HF0 := Lib.hid ((FB.refl w).alloc (.cells #[.slice KA ks.length kc, .int .i64 T, .int .i64 Y] 52))
  have HK0 := Lib.hid (heap_alloc_new w (.cells #[.slice KA ks.length kc, .int .i64 T, .int .i64 Y] 52))
  have HLR := Lib.hid hlr
  have HKR := Lib.hid hkr
  have HZF := Lib.hid hzf.2
  clear hzs hlc hlm hlr hzf hkl hkm hkr hT hY
  go_enter Try.func7, Try.ntmps7
  go_wp2_with fail
  generalize w.alloc _ = W1 at *
  obtain ⟨gk, hgk⟩ : ∃ gk, gk = w.heap.size := ⟨_, rfl⟩
  rw [← hgk] at HK0 ⊢
  clear hgk
  refine (rt_lives _).mono ?_
  rintro e w1 ⟨rfl, hb⟩
  have HF1 := Lib.hid (HF0.out.trans hb)
  have HK1 := Lib.hid (rd_keep hb HK0.out)
  clear hb HF0 HK0
  by_cases h1 : 80 < zs0
  · go_wp2
    go_ret
    exact ⟨rfl, HF1.out⟩
  by_cases h2 : 12 < ls.length
  · have hz : 12 < (ls.length : Int) := by omega
    go_wp2
    go_ret
    exact ⟨rfl, HF1.out⟩
  have hz : ¬ 12 < (ls.length : Int) := by omega
  have HLL := Lib.hid (show ls.length ≤ 12 from by omega)
  have qk := row3 HK1.out
  go_wp2_with fail
  refine (kit_LightCrash KA ks.length kc T Y 100 _).mono ?_
  rintro e w2 ⟨rfl, hb⟩
  have HF2 := Lib.hid (HF1.out.trans hb)
  have HK2 := Lib.hid (rd_keep hb HK1.out)
  clear hb HF1 HK1 qk
  by_cases h100 : ((ks.length : Nat) : Int) ≤ 100
  rotate_left
  · rw [decide_eq_false h100]
    go_wp2
    go_ret
    exact ⟨rfl, HF2.out⟩
  rw [decide_eq_true h100]
  have HKL := Lib.hid (show ks.length ≤ 1000000000 from by omega)
  clear h100
  go_upto_region 5 with fail
  clear h2 hz
  by_cases hbad : zs0 < 1
  · have HC1 := Lib.hid (dsk_New_bad zs0 (.inl hbad) w2)
    have HC2 := Lib.hid (ref_New_bad zs0 (.inl hbad) w2)
    clear hbad h1
    go_wp2_with fail
    refine HC1.out.mono ?_
    rintro e w3 ⟨rfl, rfl⟩
    go_wp2_with fail
    refine HC2.out.mono ?_
    rintro e w3 ⟨rfl, rfl⟩
    go_wp2
    go_ret
    exact ⟨rfl, HF2.out⟩
  obtain ⟨s, rfl⟩ : ∃ s : Nat, zs0 = (s : Int) := ⟨zs0.toNat, by omega⟩
  have HSN := Lib.hid (show 1 ≤ s ∧ s ≤ 80 from by omega)
  clear hbad h1
  go_wp2_with fail
  refine (dsk_New_ok s HSN.out.1 (by have := HSN.out.2; omega) w2).mono ?_
  rintro e w3 ⟨F, g, rfl, hd, hb, hFn⟩
  have HD3 := Lib.hid (show DW w2 w3 F g s ⟨List.replicate (512 * s) 0#8, [], none⟩ from ⟨hd, hb, hFn⟩)
  clear hd hb hFn
  go_wp2_with fail
  refine (ref_New_ok s HSN.out.1 (by have := HSN.out.2; omega) w3).mono ?_
  rintro e w4 ⟨G, h, rfl, hd, hb, hGn⟩
  have HT4 := Lib.hid (show Two w2 w4 F g G h s ⟨List.replicate (512 * s) 0#8, [], none⟩ ⟨List.replicate (512 * s) 0#8, [], none⟩ from ⟨HD3.out.fbn hb, hd, fun y hy => Nat.le_trans HD3.out.fb.le (hGn y hy), fun y hy hg => by have h1 := HD3.out.dsk.lt _ hy; have h2 := hGn _ hg; omega⟩)
  clear hd hb hGn HD3
  generalize (⟨List.replicate (512 * s) 0#8, [], none⟩ : DiskSt) = D4 at *
  have HLW := Lib.hid (HLR.out.fb HF2.out)
  go_wp2_with fail
  go_loopw [13] (fun i wr => ∃ (j : Nat) (D : DiskSt) (F G : List Nat), j ≤ ls.length ∧ i = .int .i64 j ∧ Hid (Two w2 wr F g G h s D D)) (fun i _ => ls.length - (intOf i).toNat)
  case atStart => exact ⟨0, D4, F, G, by omega, rfl, HT4⟩
  case round =>
    clear HT4
    obtain ⟨j, D, Fr, Gr, hj, rfl, HT⟩ := hrel
    by_cases hlt : j < ls.length
    · have hz : (j : Int) < (ls.length : Int) := by omega
      have HJ := Lib.hid hlt
      obtain ⟨lb, lo, rfl, hcl⟩ := HLW.out j hlt
      generalize ls[j] = r at hcl
      have HCL := Lib.hid (rd_cells hcl)
      have HLB := Lib.hid (show lb < w2.heap.size from World.block_lt_of_cell? _ _ (rd_cells hcl).1)
      clear hcl hlt hj
      go_upto_region 12 with fail
      refine region_sch (E := TS (Fr ++ Gr)) ((0, true) :: (1, true) :: (2, true) :: (3, true) :: (4, true) :: (6, true) :: (7, true) :: (8, true) :: (9, true) :: (10, true) :: (5, false) :: (11, false) :: (12, true) :: []) (by kernel_rfl) (TS.refl _) (fun _ _ _ h k => TS.then h k) (fun _ _ d _ _ h => by cases d <;> exact h) (by kernel_rfl) ?_
      intro ops hops0
      have hops := Lib.hid hops0
      clear hops0
      have HF : TS (Fr ++ Gr) wr wr.drew := TS.of (FB.refl _).drew
      have HD : FB wr wr.drew := (FB.refl _).drew
      generalize wr.drew = wFr at *
      have HTq := Lib.hid (HT.out.fb HD)
      have HNL := Lib.hid (show lb ∉ Fr ++ Gr from fun hm => by
        have hlb := HLB.out
        rcases List.mem_append.1 hm with hm | hm
        · have := HTq.out.dw.own _ hm; omega
        · have := HTq.out.own _ hm; omega)
      have KC := Lib.hid (And.intro (HTq.out.dw.fb.cell HCL.out.1) (And.intro (HTq.out.dw.fb.cell HCL.out.2.1) (And.intro (HTq.out.dw.fb.cell HCL.out.2.2.1) (And.intro (HTq.out.dw.fb.cell HCL.out.2.2.2.1) (And.intro (HTq.out.dw.fb.cell HCL.out.2.2.2.2.1) (And.intro (HTq.out.dw.fb.cell HCL.out.2.2.2.2.2.1) (And.intro (HTq.out.dw.fb.cell HCL.out.2.2.2.2.2.2.1) (And.intro (HTq.out.dw.fb.cell HCL.out.2.2.2.2.2.2.2.1) (HTq.out.dw.fb.cell HCL.out.2.2.2.2.2.2.2.2)))))))))
      repeat (refine sch_take (o := ?_) (v := ?_) (a' := ?_) (at_of hops.out ?_) ?_ (fun W hW => ?_) ?_ ?_; rotate_left 3; (focus (simp only [List.getElem?_toArray, List.getElem?_cons_zero, List.getElem?_cons_succ]; rfl)); (focus (rw [hops.out]; rfl)); (focus (have u0 := TS.cell hW KC.out.1 HNL.out; have u1 := TS.cell hW KC.out.2.1 HNL.out; have u2 := TS.cell hW KC.out.2.2.1 HNL.out; have u3 := TS.cell hW KC.out.2.2.2.1 HNL.out; have u4 := TS.cell hW KC.out.2.2.2.2.1 HNL.out; have u5 := TS.cell hW KC.out.2.2.2.2.2.1 HNL.out; have u6 := TS.cell hW KC.out.2.2.2.2.2.2.1 HNL.out; have u7 := TS.cell hW KC.out.2.2.2.2.2.2.2.1 HNL.out; have u8 := TS.cell hW KC.out.2.2.2.2.2.2.2.2 HNL.out; go_simp; with_reducible rfl)); (focus (simp only [Act.put, List.setIfInBounds_toArray, List.set_cons_zero, List.set_cons_succ]; rfl)))
      have hcw := rt_Write HTq.out.dw.dsk r
      have hcr := fun (W : World) (hW : RDsk W Gr h s D) => r6_Write hW r
      generalize rtW D s r = rw0 at *
      obtain ⟨er, D2⟩ := rw0
      unfold rtV rtCs at hcw hcr
      have HSV := Lib.hid hcw
      have HSR := Lib.hid hcr
      clear hcw hcr KC HNL HF HD
      (refine sch_call (o := ?_) (f := ?_) (args := ?_) (at_of hops.out ?_) ?_ ?_ ?_; rotate_left 3; (focus (simp only [List.getElem?_toArray, List.getElem?_cons_zero, List.getElem?_cons_succ]; rfl)); (focus (rw [hops.out]; rfl)); (focus (go_simp; constructor <;> with_reducible rfl)); (first | ((with_reducible refine HSV.out.mono ?_); rintro e wB ⟨rfl, hres⟩; obtain ⟨F2, ht, hts, hin⟩ := HTq.out.stepDi hres; refine ⟨_, rfl, TS.wide hts (fun x hx => List.mem_append_left _ hx), ?_⟩; intro a' ha'; simp only [Act.put, List.setIfInBounds_toArray, List.set_cons_zero, List.set_cons_succ] at ha'; subst ha')))
      have HTB := Lib.hid ht
      clear ht hts hin hres HSV HTq
      (refine sch_call (o := ?_) (f := ?_) (args := ?_) (at_of hops.out ?_) ?_ ?_ ?_; rotate_left 3; (focus (simp only [List.getElem?_toArray, List.getElem?_cons_zero, List.getElem?_cons_succ]; rfl)); (focus (rw [hops.out]; rfl)); (focus (go_simp; constructor <;> with_reducible rfl)); (first | ((with_reducible refine (HSR.out _ HTB.out.rd).mono ?_); rintro e wC ⟨rfl, hres⟩; obtain ⟨G2, ht, hts, hin⟩ := HTB.out.stepRi hres; refine ⟨_, rfl, TS.wide hts (fun x hx => List.mem_append_right _ hx), ?_⟩; intro a' ha'; simp only [Act.put, List.setIfInBounds_toArray, List.set_cons_zero, List.set_cons_succ] at ha'; subst ha')))
      have HTC := Lib.hid ht
      clear ht hts hin hres HSR HTB
      repeat (refine sch_take (o := ?_) (v := ?_) (a' := ?_) (at_of hops.out ?_) ?_ (fun W hW => ?_) ?_ ?_; rotate_left 3; (focus (simp only [List.getElem?_toArray, List.getElem?_cons_zero, List.getElem?_cons_succ]; rfl)); (focus (rw [hops.out]; rfl)); (focus (go_simp; with_reducible rfl)); (focus (simp only [Act.put, List.setIfInBounds_toArray, List.set_cons_zero, List.set_cons_succ]; rfl)))
      refine sch_done ?_
      clear hops HT
      have hee : (er != er) = false := by simp
      go_upto_region 14 with fail
      clear hee
      have hf1 := rt_Find HTC.out.dw.dsk
      have hf2 := fun (W : World) (hW : RDsk W G2 h s D2) => r6_Find hW
      generalize rtFd D2 s = fd at *
      obtain ⟨⟨x, ef⟩, D3⟩ := fd
      unfold rtV rtCs at hf1 hf2
      have HFA := Lib.hid hf1
      have HFB := Lib.hid hf2
      clear hf1 hf2
      go_wp2_with fail
      refine HFA.out.mono ?_
      rintro e v1 ⟨rfl, hd, ht⟩
      obtain ⟨wa, hwa⟩ : ∃ wa : World, wa = v1.alloc (.cells (rtCs x) 29) := ⟨_, rfl⟩
      have HTa := Lib.hid (show Two w2 wa F2 g G2 h s D3 D2 from by rw [hwa]; exact (HTC.out.setD hd ht).fb ((FB.refl v1).alloc _))
      have HXa := Lib.hid (show wa.heap[v1.heap.size]? = some (.cells (rtCs x) 29 (0, 0)) from by rw [hwa]; exact heap_alloc_new v1 _)
      have HXG := Lib.hid (show v1.heap.size ∉ G2 from fun hm => by have := (HTC.out.setD hd ht).rd.lt _ hm; omega)
      have HW := Lib.hid (show v1.alloc (.cells #[.int .u64 (nb x.E), .int .u64 (nb x.P), .int .u64 (nb x.T), .int .u64 (nb x.S), .int .u64 (nb x.L), .int .u64 (nb x.a), .int .u64 (nb x.b), .int .u64 (nb x.c), .int .u64 (nb x.d)] 29) = wa from hwa.symm)
      clear hd ht hwa HFA HTC
      go_upto_region 15 with fail
      rw [HW.out]
      clear HW
      generalize v1.heap.size = gx at *
      go_wp2_with fail
      refine (HFB.out _ HTa.out.rd).mono ?_
      rintro e v2 ⟨rfl, hd, ht⟩
      obtain ⟨wb, hwb⟩ : ∃ wb : World, wb = v2.alloc (.cells (rtCs x) 29) := ⟨_, rfl⟩
      have HTb := Lib.hid (show Two w2 wb F2 g G2 h s D3 D3 from by rw [hwb]; exact (HTa.out.setR hd ht).fb ((FB.refl v2).alloc _))
      have HXb := Lib.hid (show wb.heap[gx]? = some (.cells (rtCs x) 29 (0, 0)) from by rw [hwb]; exact rd_keep ((FB.refl v2).alloc _) ((ht.block _ (Array.getElem?_eq_some_iff.1 HXa.out).1 HXG.out).trans HXa.out))
      have HYb := Lib.hid (show wb.heap[v2.heap.size]? = some (.cells (rtCs x) 29 (0, 0)) from by rw [hwb]; exact heap_alloc_new v2 _)
      have HW := Lib.hid (show v2.alloc (.cells #[.int .u64 (nb x.E), .int .u64 (nb x.P), .int .u64 (nb x.T), .int .u64 (nb x.S), .int .u64 (nb x.L), .int .u64 (nb x.a), .int .u64 (nb x.b), .int .u64 (nb x.c), .int .u64 (nb x.d)] 29) = wb from hwb.symm)
      clear hd ht hwb HFB HTa HXa HXG
      go_upto_region 16 with fail
      rw [HW.out]
      clear HW
      generalize v2.heap.size = gy at *
      have qx := prow9 HXb.out
      have qy := prow9 HYb.out
      have hqn : ∀ w, (binOp .neq 29 (.agg #[.int .u64 (nb x.E), .int .u64 (nb x.P), .int .u64 (nb x.T), .int .u64 (nb x.S), .int .u64 (nb x.L), .int .u64 (nb x.a), .int .u64 (nb x.b), .int .u64 (nb x.c), .int .u64 (nb x.d)]) (.agg #[.int .u64 (nb x.E), .int .u64 (nb x.P), .int .u64 (nb x.T), .int .u64 (nb x.S), .int .u64 (nb x.L), .int .u64 (nb x.a), .int .u64 (nb x.b), .int .u64 (nb x.c), .int .u64 (nb x.d)])).run Try.prog w = .ok (.bool false) w := fun w => by have h := rt_neq x x w; rw [rtEq_self] at h; exact h
      have hqg : ∀ op x y xs ys w, (eqGuard op 29 x y (.agg xs) (.agg ys)).run Try.prog w = .ok () w := fun op x y xs ys w => rt_eqGuard op x y xs ys w
      have hef : (ef != ef) = false := by simp
      have hw3 : IntKind.i64.wrap ((j : Int) + 1) = (j : Int) + 1 := by rw [IntKind.wrap_i64]; have := HLL.out; have := HJ.out; omega
      go_upto_region 18 with fail
      clear qx qy hqn hqg hef HXb HYb
      by_cases h1 : j = 1
      · subst h1
        go_wp2_with fail
        refine (dsk_Fail HTb.out.dw.dsk zf HZF.out).mono ?_
        rintro e w7 ⟨rfl, hres⟩
        obtain ⟨F5, ht, hts, hin⟩ := HTb.out.stepDi hres
        have HT5 := Lib.hid ht
        clear ht hts hin hres HTb
        go_wp2_with fail
        refine (ref_Fail HT5.out.rd zf HZF.out).mono ?_
        rintro e w8 ⟨rfl, hres⟩
        obtain ⟨G6, ht, hts, hin⟩ := HT5.out.stepRi hres
        have HT6 := Lib.hid ht
        clear ht hts hin hres HT5
        go_wp2_with fail
        go_roundw
        case rel => exact ⟨1 + 1, _, F5, G6, by have := HJ.out; omega, by go_num, HT6⟩
        case measure => (show ls.length - (2 : Int).toNat < ls.length - (1 : Int).toNat; have := HJ.out; omega)
      · have hj1 : ((j : Int) == 1) = false := by rw [beq_eq_false_iff_ne]; omega
        go_wp2_with fail
        go_roundw
        case rel => exact ⟨j + 1, D3, F2, G2, by have := HJ.out; omega, by go_num, HTb⟩
        case measure => (show ls.length - ((j : Int) + 1).toNat < ls.length - ((j : Int)).toNat; have := HJ.out; omega)
    · have hz : ¬ (j : Int) < (ls.length : Int) := by omega
      have HKx := Lib.hid (rd_keep HT.out.dw.fb HK2.out)
      have qk := row3 HKx.out
      go_wp2_with fail
      refine (kit_Crash KA ks kc T Y _ ((HF2.out.trans HT.out.dw.fb).rdV HKR.out) HKL.out).mono ?_
      rintro e wa ⟨KA2, kc2, rfl, hrk, hb, hka⟩
      have HTa := Lib.hid (HT.out.fb hb)
      have hcc := dsk_Crash HTa.out.dw.dsk KA2 kc2 ks T Y hrk (fun ad ha hm => by have h1 := hka ad ha; have h2 := HT.out.dw.dsk.lt _ hm; omega)
      have HC := Lib.hid hcc
      clear hrk hb hka hcc qk HKx hz hlt hj
      go_wp2_with fail
      refine HC.out.mono ?_
      rintro e wb ⟨rfl, hd, ht⟩
      have HTb := Lib.hid (HTa.out.setD hd ht)
      clear hd ht HC HT HTa
      have HKx := Lib.hid (rd_keep HTb.out.dw.fb HK2.out)
      have qk := row3 HKx.out
      have HKW := Lib.hid (HF2.out.rdV HKR.out)
      have hcc := ref_Crash HTb.out.rd KA kc ks T Y (HTb.out.dw.fb.rdV HKW.out) (fun ad ha h0 hm => by
        obtain ⟨b, o, he, hb0, -⟩ := RdV.form HKW.out (by rw [List.length_map]; exact h0)
        rw [he] at ha
        cases ha
        have h1 := HTb.out.own _ hm
        simp only at h1
        omega) HKL.out
      have HC := Lib.hid hcc
      clear hcc
      go_wp2_with fail
      refine HC.out.mono ?_
      rintro e wc ⟨rfl, hd, ht⟩
      have HTc := Lib.hid (HTb.out.setR hd ht)
      clear hd ht HC HTb qk HKx HKW
      generalize (⟨crashB (keptLen ks T Y) D.M D.b D.M.length, [], none⟩ : DiskSt) = Dc at *
      have hf1 := rt_Find HTc.out.dw.dsk
      have hf2 := fun (W : World) (hW : RDsk W Gr h s Dc) => r6_Find hW
      generalize rtFd Dc s = fd at *
      obtain ⟨⟨x, ef⟩, D3⟩ := fd
      unfold rtV rtCs at hf1 hf2
      have HFA := Lib.hid hf1
      have HFB := Lib.hid hf2
      clear hf1 hf2
      go_wp2_with fail
      refine HFA.out.mono ?_
      rintro e v1 ⟨rfl, hd, ht⟩
      obtain ⟨wa, hwa⟩ : ∃ wa : World, wa = v1.alloc (.cells (rtCs x) 29) := ⟨_, rfl⟩
      have HTa := Lib.hid (show Two w2 wa Fr g Gr h s D3 Dc from by rw [hwa]; exact (HTc.out.setD hd ht).fb ((FB.refl v1).alloc _))
      have HXa := Lib.hid (show wa.heap[v1.heap.size]? = some (.cells (rtCs x) 29 (0, 0)) from by rw [hwa]; exact heap_alloc_new v1 _)
      have HXG := Lib.hid (show v1.heap.size ∉ Gr from fun hm => by have := (HTc.out.setD hd ht).rd.lt _ hm; omega)
      have HW := Lib.hid (show v1.alloc (.cells #[.int .u64 (nb x.E), .int .u64 (nb x.P), .int .u64 (nb x.T), .int .u64 (nb x.S), .int .u64 (nb x.L), .int .u64 (nb x.a), .int .u64 (nb x.b), .int .u64 (nb x.c), .int .u64 (nb x.d)] 29) = wa from hwa.symm)
      clear hd ht hwa HFA HTc
      go_upto_region 24 with fail
      rw [HW.out]
      clear HW
      generalize v1.heap.size = gx at *
      go_wp2_with fail
      refine (HFB.out _ HTa.out.rd).mono ?_
      rintro e v2 ⟨rfl, hd, ht⟩
      obtain ⟨wb, hwb⟩ : ∃ wb : World, wb = v2.alloc (.cells (rtCs x) 29) := ⟨_, rfl⟩
      have HTb := Lib.hid (show Two w2 wb Fr g Gr h s D3 D3 from by rw [hwb]; exact (HTa.out.setR hd ht).fb ((FB.refl v2).alloc _))
      have HXb := Lib.hid (show wb.heap[gx]? = some (.cells (rtCs x) 29 (0, 0)) from by rw [hwb]; exact rd_keep ((FB.refl v2).alloc _) ((ht.block _ (Array.getElem?_eq_some_iff.1 HXa.out).1 HXG.out).trans HXa.out))
      have HYb := Lib.hid (show wb.heap[v2.heap.size]? = some (.cells (rtCs x) 29 (0, 0)) from by rw [hwb]; exact heap_alloc_new v2 _)
      have HW := Lib.hid (show v2.alloc (.cells #[.int .u64 (nb x.E), .int .u64 (nb x.P), .int .u64 (nb x.T), .int .u64 (nb x.S), .int .u64 (nb x.L), .int .u64 (nb x.a), .int .u64 (nb x.b), .int .u64 (nb x.c), .int .u64 (nb x.d)] 29) = wb from hwb.symm)
      clear hd ht hwb HFB HTa HXa HXG
      go_upto_region 25 with fail
      rw [HW.out]
      clear HW
      generalize v2.heap.size = gy at *
      have qx := prow9 HXb.out
      have qy := prow9 HYb.out
      have hqn : ∀ w, (binOp .eql 29 (.agg #[.int .u64 (nb x.E), .int .u64 (nb x.P), .int .u64 (nb x.T), .int .u64 (nb x.S), .int .u64 (nb x.L), .int .u64 (nb x.a), .int .u64 (nb x.b), .int .u64 (nb x.c), .int .u64 (nb x.d)]) (.agg #[.int .u64 (nb x.E), .int .u64 (nb x.P), .int .u64 (nb x.T), .int .u64 (nb x.S), .int .u64 (nb x.L), .int .u64 (nb x.a), .int .u64 (nb x.b), .int .u64 (nb x.c), .int .u64 (nb x.d)])).run Try.prog w = .ok (.bool true) w := fun w => by have h := rt_eql x x w; rw [rtEq_self] at h; exact h
      have hqg : ∀ op x y xs ys w, (eqGuard op 29 x y (.agg xs) (.agg ys)).run Try.prog w = .ok () w := fun op x y xs ys w => rt_eqGuard op x y xs ys w
      have hef : (ef == ef) = true := by simp
      have HE := Lib.hid (HF2.out.trans HTb.out.dw.fb)
      clear HXb HYb
      go_wp2
      go_ret
      exact ⟨rfl, HE.out⟩
end Go.Proofs.Ytihljjfnjclefaa
