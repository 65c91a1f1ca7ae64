/- Walks and laws that the claim's last text stands on, several texts in one file: PageDiskW, Row, RowPg. Under the hypotheses that each theorem states. -/
import Derived.OpenShut
import Derived.ChangeOld
import Derived.Lib.SmallJoins
import Derived.Test.YtihljjfnjclefaaDoorMPageDiska
import Derived.Test.YtihljjfnjclefaaDoorMPageDiskb
import Derived.Test.YtihljjfnjclefaaDoorMPageDiskc
import Derived.Test.YtihljjfnjclefaaDoorMPageDiskd
import Derived.Test.YtihljjfnjclefaaDoorMPageDiske
import Derived.Test.YtihljjfnjclefaaDoorMPageDiskf
import Derived.Test.YtihljjfnjclefaaDoorMPageDiskg
import Derived.Test.YtihljjfnjclefaaDoorMPageDiskh
import Derived.Test.YtihljjfnjclefaaDoorMPageDiski
import Derived.Test.YtihljjfnjclefaaDoorMPageDiskj
import Derived.Test.YtihljjfnjclefaaDoorMPageDiskk
import Derived.Test.YtihljjfnjclefaaDoorMPageDiskl
import Derived.Test.YtihljjfnjclefaaDoorMPageDiskm
/- The walk through PageDisk. -/
set_option linter.unusedVariables false
set_option linter.unusedSimpArgs false
namespace Go.Proofs.YtihljjfnjclefaaDoor
open Go.ChangeShapes Go.WideShapes Go.ChangeAt Go.RowKit
attribute [local go_sem] nb_nonneg nb_lt8 nb_lt64
set_option maxRecDepth 100000

theorem TS.wide {F F' : List Nat} {w w' : World} (h : TS F w w') (hs : ∀ x ∈ F, x ∈ F') : TS F' w w' := ⟨h.os, h.tape, h.output, h.size, fun k hk hn => h.block k hk (fun m => hn (hs k m))⟩
section
variable {w0 w w' : World} {F G : List Nat} {g h n : Nat} {D D2 D' : DiskSt}
theorem Two.stepDi (t : Two w0 w F g G h n D D2) (k : DskRes w F g n D' w') : ∃ F', Two w0 w' F' g G h n D' D2 ∧ TS F w w' ∧ ∀ x ∈ F', x ∈ F ∨ w.heap.size ≤ x := by
  obtain ⟨F', h1, h2, h3⟩ := t.dw.res k
  refine ⟨F', ⟨h1, t.rd.ts h2 t.dj, t.own, fun x hx hg => ?_⟩, h2, h3⟩
  rcases h3 x hx with h' | h'
  · exact t.dj x h' hg
  · have := t.rd.lt x hg; omega
theorem Two.stepRi (t : Two w0 w F g G h n D D2) (k : RRes w G h n D' w') : ∃ G', Two w0 w' F g G' h n D D' ∧ TS G w w' ∧ ∀ x ∈ G', x ∈ G ∨ w.heap.size ≤ x := by
  obtain ⟨G', h1, h2, h3⟩ := k
  have hd : ∀ x ∈ G, x ∉ F := fun x hx hf => t.dj x hf hx
  refine ⟨G', ⟨⟨t.dw.dsk.ts h3 hd, t.dw.fb.ts h3 t.own, t.dw.own⟩, h2, fun x hx => ?_, fun x hx hg => ?_⟩, h3, h1⟩
  · rcases h1 x hx with h' | h'
    · exact t.own x h'
    · exact Nat.le_trans t.dw.fb.le h'
  · rcases h1 x hg with h' | h'
    · exact t.dj x hx h'
    · have := t.dw.dsk.lt x hx; omega
/-- A row that lies outside both disks. -/
structure Outb (w : World) (F G : List Nat) (A : Option Addr) (xs : List Byte) : Prop where
  rd : Rd w A xs
  out : ∀ ad, A = some ad → ad.block < w.heap.size ∧ ad.block ∉ F ∧ ad.block ∉ G
theorem Outb.fb {A : Option Addr} {xs : List Byte} (o : Outb w F G A xs) (k : FB w w') : Outb w' F G A xs := ⟨k.rd o.rd, fun ad ha => ⟨Nat.lt_of_lt_of_le (o.out ad ha).1 k.le, (o.out ad ha).2⟩⟩
theorem Outb.stepD {F' : List Nat} {A : Option Addr} {xs : List Byte} (o : Outb w F G A xs) (k : TS F w w') (hf : ∀ x ∈ F', x ∈ F ∨ w.heap.size ≤ x) : Outb w' F' G A xs :=
  ⟨k.rd o.rd (fun ad ha => (o.out ad ha).2.1), fun ad ha => ⟨Nat.lt_of_lt_of_le (o.out ad ha).1 k.size, fun hm => by rcases hf _ hm with h | h; exact (o.out ad ha).2.1 h; have := (o.out ad ha).1; omega, (o.out ad ha).2.2⟩⟩
theorem Outb.stepR {G' : List Nat} {A : Option Addr} {xs : List Byte} (o : Outb w F G A xs) (k : TS G w w') (hf : ∀ x ∈ G', x ∈ G ∨ w.heap.size ≤ x) : Outb w' F G' A xs :=
  ⟨k.rd o.rd (fun ad ha => (o.out ad ha).2.2), fun ad ha => ⟨Nat.lt_of_lt_of_le (o.out ad ha).1 k.size, (o.out ad ha).2.1, fun hm => by rcases hf _ hm with h | h; exact (o.out ad ha).2.2 h; have := (o.out ad ha).1; omega⟩⟩
theorem two_load (t : Two w0 w F g G h n D D) (z : Int) : ∃ r : List Byte × Int × DiskSt,
    Calls Tryd.prog 21 #[.pointer (some ⟨g, 0, none⟩), .int .i64 z] w (fun e w' => ∃ A c, e = .returned (.tuple #[.slice A r.1.length c, .int .i64 r.2.1]) ∧ Rd w' A r.1 ∧ (∀ ad, A = some ad → w.heap.size ≤ ad.block) ∧ Two w0 w' F g G h n r.2.2 D ∧ TS F w w') ∧
    ∀ W, Two w0 W F g G h n r.2.2 D → Calls Tryd.prog 31 #[.pointer (some ⟨h, 0, none⟩), .int .i64 z] W (fun e w' => ∃ A c, e = .returned (.tuple #[.slice A r.1.length c, .int .i64 r.2.1]) ∧ Rd w' A r.1 ∧ Two w0 w' F g G h n r.2.2 r.2.2 ∧ TS G W w') := by
  refine ⟨sdLoad D n z, (pg_Load t.dw.dsk z).mono ?_, fun W tW => (r5_Load tW.rd z).mono ?_⟩
  · rintro e w' ⟨A, c, rfl, hr, hn, hd, ht, -, -⟩
    exact ⟨A, c, rfl, hr, hn, ⟨⟨hd, t.dw.fb.ts ht t.dw.own, t.dw.own⟩, t.rd.ts ht t.dj, t.own, t.dj⟩, ht⟩
  · rintro e w' ⟨A, c, rfl, hr, hn, hd, ht⟩
    have hj : ∀ x ∈ G, x ∉ F := fun x hx hf => tW.dj x hf hx
    exact ⟨A, c, rfl, hr, ⟨⟨tW.dw.dsk.ts ht hj, tW.dw.fb.ts ht tW.own, tW.dw.own⟩, hd, tW.own, tW.dj⟩, ht⟩
end
theorem pbox1 (w : World) (a b c : Value) : (w.alloc (.cells #[a, b, c] 25)).heap[w.heap.size]? = some (.cells #[a, b, c] 25 (0, 0)) := heap_alloc_new _ _
set_option maxHeartbeats 8000000 in
theorem pageDisk_walk (zs0 zf : Int) (L : Option Addr) (lc : Nat) (ls : List Int) (K : Int) (n : BitVec 32) (A : Option Addr) (c : Nat) (x : List Byte) (w : World) (hzs : -9223372036854775808 ≤ zs0 ∧ zs0 ≤ 9223372036854775807) (hzf : -9223372036854775808 ≤ zf ∧ zf ≤ 9223372036854775807) (hlc : ls.length ≤ lc) (hlm : lc ≤ maxLen) (hlr : RdV w L (ls.map (.int .i64))) (hlw : ∀ z ∈ ls, -9223372036854775808 ≤ z ∧ z ≤ 9223372036854775807) (hc : x.length ≤ c) (hm : c ≤ maxLen) (hr : Rd w A x) (hK : -9223372036854775808 ≤ K ∧ K ≤ 9223372036854775807) :
    Calls Tryd.prog 8 #[.int .i64 zs0, .int .i64 zf, .slice L ls.length lc, .agg #[.int .i64 K, .int .u32 (nb n), .slice A x.length c]] w fun e w' => e = .returned (.bool true) ∧ Below w.heap.size w w' := by
  have HF0 := Lib.hid ((FB.refl w).alloc (.cells #[.int .i64 K, .int .u32 (nb n), .slice A x.length c] 25))
  have HP0 := Lib.hid (pbox1 w (.int .i64 K) (.int .u32 (nb n)) (.slice A x.length c))
  have HRX := Lib.hid hr
  have HRL := Lib.hid hlr
  have HCX := Lib.hid (And.intro hc hm)
  have HZF := Lib.hid hzf.2
  clear hr hlr hc hm hK hlw hzf hlc hlm
  go_enter Tryd.func8, Tryd.ntmps8
  go_wp2_with fail
  generalize w.alloc _ = W1 at *
  refine (pg_lives _).mono ?_
  rintro e w1 ⟨rfl, hb⟩
  have HF1 := Lib.hid (HF0.out.trans hb)
  have HP1 := Lib.hid ((hb.block _ (Array.getElem?_eq_some_iff.1 HP0.out).1).trans HP0.out)
  clear hb HF0 HP0
  obtain ⟨q0, q1, q2⟩ := prow3 HP1.out
  by_cases h1 : 40 < zs0
  · go_wp2
    go_ret
    exact ⟨rfl, HF1.out⟩
  · by_cases h2 : 20 < ls.length
    · have hz : 20 < (ls.length : Int) := by omega
      go_wp2
      go_ret
      exact ⟨rfl, HF1.out⟩
    · have hz : ¬ 20 < (ls.length : Int) := by omega
      by_cases h3 : 4080 < x.length
      · have hz3 : 4080 < (x.length : Int) := by omega
        go_wp2
        go_ret
        exact ⟨rfl, HF1.out⟩
      · have hz3 : ¬ 4080 < (x.length : Int) := by omega
        have HLX := Lib.hid (show x.length ≤ 4080 from by omega)
        have HLL := Lib.hid (show ls.length ≤ 20 from by omega)
        clear h2 h3
        by_cases hbad : zs0 < 1
        · have hn1 := dsk_New_bad zs0 (.inl hbad) w1
          have hn2 := ref_New_bad zs0 (.inl hbad) w1
          have HC1 := Lib.hid hn1
          have HC2 := Lib.hid hn2
          clear hn1 hn2 hbad
          go_wp2_with fail
          refine HC1.out.mono ?_
          rintro e w2 ⟨rfl, rfl⟩
          go_wp2_with fail
          refine HC2.out.mono ?_
          rintro e w2 ⟨rfl, rfl⟩
          go_wp2
          go_ret
          exact ⟨rfl, HF1.out⟩
        · obtain ⟨s, rfl⟩ : ∃ s : Nat, zs0 = (s : Int) := ⟨zs0.toNat, by omega⟩
          have HSN := Lib.hid (show 1 ≤ s ∧ s ≤ 40 from by omega)
          clear hbad hzs
          go_wp2_with fail
          clear q0 q1 q2 h1 hz hz3
          refine (dsk_New_ok s HSN.out.1 (by have := HSN.out.2; omega) w1).mono ?_
          rintro e w2 ⟨F, g, rfl, hd, hb, hFn⟩
          have HD2 := Lib.hid (show DW w1 w2 F g s ⟨List.replicate (512 * s) 0#8, [], none⟩ from ⟨hd, hb, hFn⟩)
          clear hd hb hFn
          go_wp2_with fail
          refine (ref_New_ok s HSN.out.1 (by have := HSN.out.2; omega) w2).mono ?_
          rintro e w3 ⟨G, h, rfl, hd, hb, hGn⟩
          have HT3 := Lib.hid (show Two w1 w3 F g G h s ⟨List.replicate (512 * s) 0#8, [], none⟩ ⟨List.replicate (512 * s) 0#8, [], none⟩ from ⟨HD2.out.fbn hb, hd, fun y hy => Nat.le_trans HD2.out.fb.le (hGn y hy), fun y hy hg => by have h1 := HD2.out.dsk.lt y hy; have h2 := hGn y hg; omega⟩)
          have HP3 := Lib.hid (((HD2.out.fb.trans hb).block _ (Array.getElem?_eq_some_iff.1 HP1.out).1).trans HP1.out)
          clear hd hb hGn HD2
          obtain ⟨q0, q1, q2⟩ := prow3 HP3.out
          have hbt := r5_Bytes K n x A c w3 (by have := HLX.out; omega) ((HF1.out.trans HT3.out.dw.fb).rd HRX.out)
          obtain ⟨rb, hrb⟩ : ∃ rb, rb = pgB K n x := ⟨_, rfl⟩
          have HYL := Lib.hid (show rb.1.length ≤ 4096 from by
            rw [hrb]; unfold pgB; split
            · rename_i ho; exact Nat.le_of_eq (pgBytes_len _ _ (pgOk_iff.1 ho).2.2)
            · simp)
          rw [← hrb] at hbt
          obtain ⟨ys, ey⟩ := rb
          have HYL := Lib.hid (show ys.length ≤ 4096 from HYL.out)
          have HCB := Lib.hid hbt
          clear hbt hrb
          go_wp2_with fail
          clear q0 q1 q2
          refine HCB.out.mono ?_
          rintro e w4 ⟨A13, c13, rfl, ho, hb⟩
          simp only at ho
          have hi := Own.info ho
          have HC13 := Lib.hid (And.intro hi.1 hi.2.1)
          have HT4 := Lib.hid (HT3.out.fb hb)
          have HO4 := Lib.hid (show Outb w4 F G A13 ys from ⟨hi.2.2.1, fun ad ha => by
            have h1 := hi.2.2.2.2 ad ha
            exact ⟨h1.2, fun hm => by have := HT3.out.dw.dsk.lt _ hm; omega, fun hm => by have := HT3.out.rd.lt _ hm; omega⟩⟩)
          clear ho hb hi HCB HT3 HP3 HP1
          go_wp2_with fail
          refine (dsk_Fail HT4.out.dw.dsk zf HZF.out).mono ?_
          rintro e w5 ⟨rfl, hres⟩
          obtain ⟨F5, ht, hts, hin⟩ := HT4.out.stepDi hres
          have HT5 := Lib.hid ht
          have HO5 := Lib.hid (HO4.out.stepD hts hin)
          clear ht hts hin hres HT4 HO4
          go_wp2_with fail
          refine (ref_Fail HT5.out.rd zf HZF.out).mono ?_
          rintro e w6 ⟨rfl, hres⟩
          obtain ⟨G6, ht, hts, hin⟩ := HT5.out.stepRi hres
          have HT6 := Lib.hid ht
          have HO6 := Lib.hid (HO5.out.stepR hts hin)
          clear ht hts hin hres HT5 HO5
          generalize (⟨List.replicate (512 * s) 0#8, [], if 0 ≤ zf then some zf else none⟩ : DiskSt) = D6 at *
          go_wp2_with fail
          go_loopw [15] (fun i wr => ∃ (j : Nat) (D : DiskSt) (F G : List Nat), j ≤ ls.length ∧ i = .int .i64 j ∧ Hid (Two w1 wr F g G h s D D) ∧ Hid (Outb wr F G A13 ys)) (fun i _ => ls.length - (intOf i).toNat)
          case atStart => exact ⟨0, D6, F5, G6, by omega, rfl, HT6, HO6⟩
          case round =>
            clear HT6 HO6
            obtain ⟨j, D, Fr, Gr, hj, rfl, HT, HO⟩ := hrel
            by_cases hlt : j < ls.length
            · have hz : (j : Int) < (ls.length : Int) := by omega
              have HJ := Lib.hid hlt
              have hw3 : IntKind.i64.wrap ((j : Int) + 1) = (j : Int) + 1 := by rw [IntKind.wrap_i64]; have := HLL.out; omega
              obtain ⟨lb, lo, rfl, hcl⟩ := RdV.icell (HF1.out.rdV HRL.out) hlt
              generalize ls[j] = z at hcl
              have HCL := Lib.hid hcl
              have HLB := Lib.hid (show lb < w1.heap.size from World.block_lt_of_cell? _ _ hcl)
              clear hcl hlt hj
              have hmm : (j : Int) % 2 = ((j % 2 : Nat) : Int) := by omega
              by_cases heven : j % 2 = 0
              · have he0 : ((j : Int) % 2 == 0) = true := by rw [hmm, heven]; rfl
                clear hmm heven
                go_upto_region 16 with fail
                clear he0
                refine region_sch (E := TS (Fr ++ Gr)) ((0, true) :: (1, true) :: (2, true) :: (3, true) :: (4, true) :: (5, true) :: (8, true) :: (9, true) :: (10, true) :: (11, true) :: (12, true) :: (13, true) :: (6, false) :: (7, false) :: (14, false) :: (15, true) :: (16, true) :: []) (by kernel_rfl) (TS.refl _) (fun _ _ _ h k => TS.then h k) (fun _ _ d _ _ h => by cases d <;> exact h) (by kernel_rfl) ?_
                intro ops hops0
                have hops := Lib.hid hops0
                clear hops0
                have HF : TS (Fr ++ Gr) wr wr.drew := TS.of (FB.refl _).drew
                have HD : FB wr wr.drew := (FB.refl _).drew
                generalize wr.drew = wFr at *
                have HTq := Lib.hid (HT.out.fb HD)
                have HOq := Lib.hid (HO.out.fb HD)
                have HCLq := Lib.hid (HTq.out.dw.fb.cell HCL.out)
                have HNL := Lib.hid (show lb ∉ Fr ++ Gr from fun hm => by
                  have hlb := HLB.out
                  rcases List.mem_append.1 hm with hm | hm
                  · have := HTq.out.dw.own _ hm; omega
                  · have := HTq.out.own _ hm; omega)
                repeat (refine sch_take (o := ?_) (v := ?_) (a' := ?_) (at_of hops.out ?_) ?_ (fun W hW => ?_) ?_ ?_; rotate_left 3; (focus (simp only [List.getElem?_toArray, List.getElem?_cons_zero, List.getElem?_cons_succ]; rfl)); (focus (rw [hops.out]; rfl)); (focus (have u1 := TS.cell hW HCLq.out HNL.out; go_simp; with_reducible rfl)); (focus (simp only [Act.put, List.setIfInBounds_toArray, List.set_cons_zero, List.set_cons_succ]; rfl)))
                have hko := kit_Own ys A13 c13 wFr (HC13.out.1) (by have := HYL.out; omega) HOq.out.rd
                have HKO := Lib.hid hko
                clear hko HF HD
                (refine sch_call (o := ?_) (f := ?_) (args := ?_) (at_of hops.out ?_) ?_ ?_ ?_; rotate_left 3; (focus (simp only [List.getElem?_toArray, List.getElem?_cons_zero, List.getElem?_cons_succ]; rfl)); (focus (rw [hops.out]; rfl)); (focus (go_simp; constructor <;> with_reducible rfl)); (first | ((with_reducible refine HKO.out.mono ?_); rintro e wA ⟨A81, c81, rfl, ho, hb⟩; refine ⟨_, rfl, TS.of hb, ?_⟩; intro a' ha'; simp only [Act.put, List.setIfInBounds_toArray, List.set_cons_zero, List.set_cons_succ] at ha'; subst ha')))
                have hi := Own.info ho
                have HTA := Lib.hid (HTq.out.fb hb)
                have HOA := Lib.hid (HOq.out.fb hb)
                have HRA := Lib.hid hi.2.2.1
                have HCA := Lib.hid (And.intro hi.1 hi.2.1)
                have HNA := Lib.hid (show ∀ ad, A81 = some ad → ad.block ∉ Fr from fun ad ha hm => by have h1 := hi.2.2.2.2 ad ha; have := HTq.out.dw.dsk.lt _ hm; omega)
                have hsv := pg_Save HTA.out.dw.dsk z A81 c81 ys (by have := HYL.out; omega) HCA.out.1 HRA.out HNA.out
                have hsr := fun W (hW : RDsk W Gr h s D) (hr : Rd W A13 ys) => r5_Save hW z A13 c13 ys (by have := HYL.out; omega) HC13.out.1 hr (fun ad ha => (HOA.out.out ad ha).2.2)
                generalize sdSave D s z ys = sv at *
                obtain ⟨er, D2⟩ := sv
                have HSV := Lib.hid hsv
                have HSR := Lib.hid hsr
                clear ho hb hi hsv hsr HKO HTq HOq
                (refine sch_call (o := ?_) (f := ?_) (args := ?_) (at_of hops.out ?_) ?_ ?_ ?_; rotate_left 3; (focus (simp only [List.getElem?_toArray, List.getElem?_cons_zero, List.getElem?_cons_succ]; rfl)); (focus (rw [hops.out]; rfl)); (focus (go_simp; constructor <;> with_reducible rfl)); (first | ((with_reducible refine HSV.out.mono ?_); rintro e wB ⟨rfl, hres⟩; obtain ⟨F2, ht, hts, hin⟩ := HTA.out.stepDi hres; refine ⟨_, rfl, TS.wide hts (fun x hx => List.mem_append_left _ hx), ?_⟩; intro a' ha'; simp only [Act.put, List.setIfInBounds_toArray, List.set_cons_zero, List.set_cons_succ] at ha'; subst ha')))
                have HTB := Lib.hid ht
                have HOB := Lib.hid (HOA.out.stepD hts hin)
                clear ht hts hin hres HSV HTA
                (refine sch_call (o := ?_) (f := ?_) (args := ?_) (at_of hops.out ?_) ?_ ?_ ?_; rotate_left 3; (focus (simp only [List.getElem?_toArray, List.getElem?_cons_zero, List.getElem?_cons_succ]; rfl)); (focus (rw [hops.out]; rfl)); (focus (go_simp; constructor <;> with_reducible rfl)); (first | ((with_reducible refine (HSR.out _ HTB.out.rd HOB.out.rd).mono ?_); rintro e wC ⟨rfl, hres⟩; obtain ⟨G2, ht, hts, hin⟩ := HTB.out.stepRi hres; refine ⟨_, rfl, TS.wide hts (fun x hx => List.mem_append_right _ hx), ?_⟩; intro a' ha'; simp only [Act.put, List.setIfInBounds_toArray, List.set_cons_zero, List.set_cons_succ] at ha'; subst ha')))
                have HTC := Lib.hid ht
                have HOC := Lib.hid (HOB.out.stepR hts hin)
                clear ht hts hin hres HSR HTB HOA HOB HCLq HNL HRA HCA HNA
                repeat (refine sch_take (o := ?_) (v := ?_) (a' := ?_) (at_of hops.out ?_) ?_ (fun W hW => ?_) ?_ ?_; rotate_left 3; (focus (simp only [List.getElem?_toArray, List.getElem?_cons_zero, List.getElem?_cons_succ]; rfl)); (focus (rw [hops.out]; rfl)); (focus (go_simp; with_reducible rfl)); (focus (simp only [Act.put, List.setIfInBounds_toArray, List.set_cons_zero, List.set_cons_succ]; rfl)))
                refine sch_done ?_
                clear hops HT HO
                have hee : (er != er) = false := by simp
                go_upto_region 19 with fail
                clear hee
                generalize wC = wr2 at *
                have HT := HTC
                have HO := HOC
                clear HTC HOC
                obtain ⟨r, hl1, hl2⟩ := two_load HT.out z
                obtain ⟨xs, er2, Dl⟩ := r
                have HL1 := Lib.hid hl1
                have HL2 := Lib.hid hl2
                have hcl := HT.out.dw.fb.cell HCL.out
                clear hl1 hl2
                go_wp2_with fail
                clear hcl
                refine HL1.out.mono ?_
                rintro e wl ⟨Al, cl, rfl, hr, hn, ht, hts⟩
                have HTl := Lib.hid ht
                have HRl := Lib.hid (show Rd wl Al xs from hr)
                have HNl := Lib.hid (fun ad (ha : Al = some ad) hm => Nat.lt_irrefl _ (Nat.lt_of_lt_of_le (HT.out.rd.lt _ hm) (hn ad ha)))
                have HOl := Lib.hid (HO.out.stepD hts (fun x hx => .inl hx))
                clear hr hn ht hts HL1 HT HO
                have hcl := HTl.out.dw.fb.cell HCL.out
                go_wp2_with fail
                clear hcl
                refine (HL2.out _ HTl.out).mono ?_
                rintro e wm ⟨Am, cm, rfl, hr2, ht2, hts2⟩
                have HTm := Lib.hid ht2
                have HOm := Lib.hid (HOl.out.stepR hts2 (fun x hx => .inl hx))
                have hs1 := run_string cl (hts2.rd HRl.out HNl.out)
                have hs2 := run_string cm (show Rd wm Am xs from hr2)
                have hse : ((sb xs).toList == (sb xs).toList) = true := by simp
                have hee : (er2 != er2) = false := by simp
                clear hr2 ht2 hts2 HL2 HTl HRl HNl HOl
                have hp1 := pg_Pages HTm.out.dw.dsk
                have hp2 := r5_Pages HTm.out.rd
                generalize ((s / 8 : Nat) : Int) = pp at *
                have HP1 := Lib.hid hp1
                have HP2 := Lib.hid hp2
                have hpp : (pp != pp) = false := by simp
                clear hp1 hp2
                go_wp2_with fail
                refine HP1.out.mono ?_
                rintro e wn ⟨rfl, rfl⟩
                go_wp2_with fail
                refine HP2.out.mono ?_
                rintro e wn ⟨rfl, rfl⟩
                go_wp2
                go_roundw
                case rel => exact ⟨j + 1, Dl, _, _, by have := HJ.out; omega, by go_num, HTm, HOm⟩
                case measure => (show ls.length - ((j : Int) + 1).toNat < ls.length - ((j : Int)).toNat; have := HJ.out; omega)
              · have he0 : ((j : Int) % 2 == 0) = false := by rw [hmm, beq_eq_false_iff_ne]; omega
                clear hmm heven
                go_upto_region 19 with fail
                clear he0
                obtain ⟨wr2, hwr2⟩ : ∃ wr2 : World, wr2 = wr := ⟨_, rfl⟩
                rw [← hwr2] at HT HO ⊢
                clear hwr2
                obtain ⟨r, hl1, hl2⟩ := two_load HT.out z
                obtain ⟨xs, er2, Dl⟩ := r
                have HL1 := Lib.hid hl1
                have HL2 := Lib.hid hl2
                have hcl := HT.out.dw.fb.cell HCL.out
                clear hl1 hl2
                go_wp2_with fail
                clear hcl
                refine HL1.out.mono ?_
                rintro e wl ⟨Al, cl, rfl, hr, hn, ht, hts⟩
                have HTl := Lib.hid ht
                have HRl := Lib.hid (show Rd wl Al xs from hr)
                have HNl := Lib.hid (fun ad (ha : Al = some ad) hm => Nat.lt_irrefl _ (Nat.lt_of_lt_of_le (HT.out.rd.lt _ hm) (hn ad ha)))
                have HOl := Lib.hid (HO.out.stepD hts (fun x hx => .inl hx))
                clear hr hn ht hts HL1 HT HO
                have hcl := HTl.out.dw.fb.cell HCL.out
                go_wp2_with fail
                clear hcl
                refine (HL2.out _ HTl.out).mono ?_
                rintro e wm ⟨Am, cm, rfl, hr2, ht2, hts2⟩
                have HTm := Lib.hid ht2
                have HOm := Lib.hid (HOl.out.stepR hts2 (fun x hx => .inl hx))
                have hs1 := run_string cl (hts2.rd HRl.out HNl.out)
                have hs2 := run_string cm (show Rd wm Am xs from hr2)
                have hse : ((sb xs).toList == (sb xs).toList) = true := by simp
                have hee : (er2 != er2) = false := by simp
                clear hr2 ht2 hts2 HL2 HTl HRl HNl HOl
                have hp1 := pg_Pages HTm.out.dw.dsk
                have hp2 := r5_Pages HTm.out.rd
                generalize ((s / 8 : Nat) : Int) = pp at *
                have HP1 := Lib.hid hp1
                have HP2 := Lib.hid hp2
                have hpp : (pp != pp) = false := by simp
                clear hp1 hp2
                go_wp2_with fail
                refine HP1.out.mono ?_
                rintro e wn ⟨rfl, rfl⟩
                go_wp2_with fail
                refine HP2.out.mono ?_
                rintro e wn ⟨rfl, rfl⟩
                go_wp2
                go_roundw
                case rel => exact ⟨j + 1, Dl, _, _, by have := HJ.out; omega, by go_num, HTm, HOm⟩
                case measure => (show ls.length - ((j : Int) + 1).toNat < ls.length - ((j : Int)).toNat; have := HJ.out; omega)
            · have hz : ¬ (j : Int) < (ls.length : Int) := by omega
              go_upto_region 23 with fail
              clear hz
              have HML := Lib.hid (show D.M.length ≤ 1000000000 from by have := HT.out.dw.dsk.mlen; have := HT.out.dw.dsk.ok.n2; omega)
              have HBL := Lib.hid (show D.b.length = 512 * s from HT.out.dw.dsk.ok.len)
              obtain ⟨W0, hW0⟩ : ∃ W0 : World, W0 = wr := ⟨_, rfl⟩
              rw [← hW0]
              refine region_sch (E := FB) ((0, true) :: (2, true) :: (1, false) :: (3, false) :: (4, false) :: (5, true) :: (6, true) :: (9, true) :: (7, false) :: (8, true) :: (10, false) :: (11, true) :: (12, true) :: (13, true) :: (14, true) :: []) (by kernel_rfl) FB.refl fb_trans (fun _ _ d _ _ h => by cases d <;> exact h) (by kernel_rfl) ?_
              intro ops hops0
              have hops := Lib.hid hops0
              clear hops0
              have HF : FB W0 W0.drew := (FB.refl _).drew
              generalize W0.drew = wF at *
              have HTq := Lib.hid (show Two w1 wF Fr g Gr h s D D from HT.out.fb (show FB wr wF from by rw [← hW0]; exact HF))
              clear hW0 HF HT HO
              have HF := FB.refl wF
              repeat (refine sch_take (o := ?_) (v := ?_) (a' := ?_) (at_of hops.out ?_) ?_ (fun W hW => ?_) ?_ ?_; rotate_left 3; (focus (simp only [List.getElem?_toArray, List.getElem?_cons_zero, List.getElem?_cons_succ]; rfl)); (focus (rw [hops.out]; rfl)); (focus (go_simp; with_reducible rfl)); (focus (simp only [Act.put, List.setIfInBounds_toArray, List.set_cons_zero, List.set_cons_succ]; rfl)))
              (refine sch_call (o := ?_) (f := ?_) (args := ?_) (at_of hops.out ?_) ?_ ?_ ?_; rotate_left 3; (focus (simp only [List.getElem?_toArray, List.getElem?_cons_zero, List.getElem?_cons_succ]; rfl)); (focus (rw [hops.out]; rfl)); (focus (go_simp; constructor <;> with_reducible rfl)); (first | ((with_reducible refine (dsk_Cached (HTq.out.fb HF).dw.dsk).mono ?_); rintro e wA ⟨A9, c9, rfl, hr9, hb, -⟩; have HR9 := Lib.hid hr9; clear hr9; refine ⟨_, rfl, hb, ?_⟩; intro a' ha'; simp only [Act.put, List.setIfInBounds_toArray, List.set_cons_zero, List.set_cons_succ] at ha'; subst ha')))
              have HFA := Lib.hid (HF.trans hb)
              clear hb HF
              (refine sch_call (o := ?_) (f := ?_) (args := ?_) (at_of hops.out ?_) ?_ ?_ ?_; rotate_left 3; (focus (simp only [List.getElem?_toArray, List.getElem?_cons_zero, List.getElem?_cons_succ]; rfl)); (focus (rw [hops.out]; rfl)); (focus (go_simp; constructor <;> with_reducible rfl)); (first | ((with_reducible refine (ref_Cached (HTq.out.fb HFA.out).rd).mono ?_); rintro e wB ⟨A10, c10, rfl, hr10, hb⟩; have HR10 := Lib.hid hr10; have HR9a := Lib.hid (hb.rdV HR9.out); clear hr10; refine ⟨_, rfl, hb, ?_⟩; intro a' ha'; simp only [Act.put, List.setIfInBounds_toArray, List.set_cons_zero, List.set_cons_succ] at ha'; subst ha')))
              have HFB := Lib.hid (HFA.out.trans hb)
              clear hb HFA
              have hki := kit_Ints (D.M.map (·.1)) (D.M.map (·.1)) A9 A10 D.M.length D.M.length c9 c10 wB (by rw [List.length_map]) (by rw [List.length_map]) (by rw [List.length_map]; exact HML.out) (by rw [List.length_map]; exact HML.out) HR9a.out HR10.out
              rw [decide_eq_true (rfl : D.M.map (·.1) = D.M.map (·.1))] at hki
              (refine sch_call (o := ?_) (f := ?_) (args := ?_) (at_of hops.out ?_) ?_ ?_ ?_; rotate_left 3; (focus (simp only [List.getElem?_toArray, List.getElem?_cons_zero, List.getElem?_cons_succ]; rfl)); (focus (rw [hops.out]; rfl)); (focus (go_simp; constructor <;> with_reducible rfl)); (first | ((with_reducible refine hki.mono ?_); rintro e wC ⟨rfl, hb⟩; refine ⟨_, rfl, hb, ?_⟩; intro a' ha'; simp only [Act.put, List.setIfInBounds_toArray, List.set_cons_zero, List.set_cons_succ] at ha'; subst ha')))
              have HFC := Lib.hid (HFB.out.trans hb)
              clear hb HFB hki HR9 HR9a HR10
              repeat (refine sch_take (o := ?_) (v := ?_) (a' := ?_) (at_of hops.out ?_) ?_ (fun W hW => ?_) ?_ ?_; rotate_left 3; (focus (simp only [List.getElem?_toArray, List.getElem?_cons_zero, List.getElem?_cons_succ]; rfl)); (focus (rw [hops.out]; rfl)); (focus (go_simp; with_reducible rfl)); (focus (simp only [Act.put, List.setIfInBounds_toArray, List.set_cons_zero, List.set_cons_succ]; rfl)))
              (refine sch_call (o := ?_) (f := ?_) (args := ?_) (at_of hops.out ?_) ?_ ?_ ?_; rotate_left 3; (focus (simp only [List.getElem?_toArray, List.getElem?_cons_zero, List.getElem?_cons_succ]; rfl)); (focus (rw [hops.out]; rfl)); (focus (go_simp; constructor <;> with_reducible rfl)); (first | ((with_reducible refine (dsk_Image (HTq.out.fb HFC.out).dw.dsk).mono ?_); rintro e wD ⟨A135, c135, rfl, hri, hci, hmi, -, hb⟩; refine ⟨_, rfl, hb, ?_⟩; intro a' ha'; simp only [Act.put, List.setIfInBounds_toArray, List.set_cons_zero, List.set_cons_succ] at ha'; subst ha')))
              have HFD := Lib.hid (HFC.out.trans hb)
              have HRI := Lib.hid (fun W (h : FB wD W) => run_string c135 (h.rd hri))
              clear hri hci hmi hb HFC
              repeat (refine sch_take (o := ?_) (v := ?_) (a' := ?_) (at_of hops.out ?_) ?_ (fun W hW => ?_) ?_ ?_; rotate_left 3; (focus (simp only [List.getElem?_toArray, List.getElem?_cons_zero, List.getElem?_cons_succ]; rfl)); (focus (rw [hops.out]; rfl)); (focus (have u1 := HRI.out W hW; rw [HBL.out] at u1; go_simp; with_reducible rfl)); (focus (simp only [Act.put, List.setIfInBounds_toArray, List.set_cons_zero, List.set_cons_succ]; rfl)))
              (refine sch_call (o := ?_) (f := ?_) (args := ?_) (at_of hops.out ?_) ?_ ?_ ?_; rotate_left 3; (focus (simp only [List.getElem?_toArray, List.getElem?_cons_zero, List.getElem?_cons_succ]; rfl)); (focus (rw [hops.out]; rfl)); (focus (go_simp; constructor <;> with_reducible rfl)); (first | ((with_reducible refine (ref_Image (HTq.out.fb HFD.out).rd).mono ?_); rintro e wE ⟨A138, c138, rfl, hri, hb⟩; refine ⟨_, rfl, hb, ?_⟩; intro a' ha'; simp only [Act.put, List.setIfInBounds_toArray, List.set_cons_zero, List.set_cons_succ] at ha'; subst ha')))
              have HFE := Lib.hid (HFD.out.trans hb)
              have HRJ := Lib.hid (fun W (h : FB wE W) => run_string c138 (h.rd hri))
              clear hri hb HFD
              repeat (refine sch_take (o := ?_) (v := ?_) (a' := ?_) (at_of hops.out ?_) ?_ (fun W hW => ?_) ?_ ?_; rotate_left 3; (focus (simp only [List.getElem?_toArray, List.getElem?_cons_zero, List.getElem?_cons_succ]; rfl)); (focus (rw [hops.out]; rfl)); (focus (have u1 := HRJ.out W hW; rw [HBL.out] at u1; go_simp; with_reducible rfl)); (focus (simp only [Act.put, List.setIfInBounds_toArray, List.set_cons_zero, List.set_cons_succ]; rfl)))
              refine sch_done ?_
              have HE := Lib.hid (HF1.out.trans (HTq.out.fb HFE.out).dw.fb)
              clear hops HRI HRJ
              go_wp2
              go_ret
              exact ⟨rfl, HE.out⟩
end Go.Proofs.YtihljjfnjclefaaDoor
/- Arguments as they come in, opened: numbers, bytes, lists of numbers. -/
set_option linter.unusedVariables false
set_option linter.unusedSimpArgs false
namespace Go.Proofs.YtihljjfnjclefaaDoor
open Go.ChangeShapes Go.WideShapes Go.ChangeAt Go.RowKit

theorem own_knob : ownKnob Tryd.prog.godebug = none := by kernel_rfl
theorem laid_out : laidOutB Tryd.prog = true := by kernel_rfl

section
variable {H : Type} {enc : TypeId × Value → H} {W : World} {v : Value} {d : DataW H} {p : List MemPlace}

theorem nb_of_int {n : Nat} {x : Int} (h0 : 0 ≤ x) (h1 : x < 2 ^ n) : ∃ b : BitVec n, x = nb b := ⟨BitVec.ofInt n x, (nb_ofInt x h0 h1).symm⟩
theorem wf_u8 {x : Int} (h : (Lit.int .u8 x).wf = true) : ∃ b : BitVec 8, x = nb b := by
  have : 0 ≤ x ∧ x ≤ 255 := by simpa [Lit.wf, IntKind.min, IntKind.max, IntKind.signed, IntKind.bits] using h
  exact nb_of_int this.1 (by omega)
theorem wf_u32 {x : Int} (h : (Lit.int .u32 x).wf = true) : ∃ b : BitVec 32, x = nb b := by
  have : 0 ≤ x ∧ x ≤ 4294967295 := by simpa [Lit.wf, IntKind.min, IntKind.max, IntKind.signed, IntKind.bits] using h
  exact nb_of_int this.1 (by omega)
theorem wf_u64 {x : Int} (h : (Lit.int .u64 x).wf = true) : ∃ b : BitVec 64, x = nb b := by
  have : 0 ≤ x ∧ x ≤ 18446744073709551615 := by simpa [Lit.wf, IntKind.min, IntKind.max, IntKind.signed, IntKind.bits] using h
  exact nb_of_int this.1 (by omega)
theorem wf_i64 {x : Int} (h : (Lit.int .i64 x).wf = true) : -9223372036854775808 ≤ x ∧ x ≤ 9223372036854775807 := by
  simpa [Lit.wf, IntKind.min, IntKind.max, IntKind.signed, IntKind.bits] using h

set_option maxRecDepth 100000 in
/-- A []byte that came in. -/
theorem open_bytes {r : Reach} {b0 : Nat} {base : Nat} {spare : Nat → Bool} {held : Bool} (hv : Value.okWide Tryd.prog W r b0 23 v) (h : DataW.Trod enc Tryd.prog W base spare held 23 v d p) :
    ∃ A c xs, v = .slice A (xs : List Byte).length c ∧ xs.length ≤ c ∧ c ≤ maxLen ∧ Rd W A xs := by
  obtain ⟨a, len, cap, rfl⟩ := okWide_slice Tryd.underlying23 hv
  obtain ⟨fuel, hf⟩ := h
  rcases open_ints Tryd.underlying23 Tryd.underlying5 (by kernel_rfl) hf with ⟨hcs, _⟩ | ⟨x, l, c, zs, hcs, _, hl, hm, hz, _, hcell, hwz⟩
  · simp [Value.cells] at hcs
    obtain ⟨rfl, rfl, rfl⟩ := hcs
    exact ⟨none, 0, [], rfl, by simp, by simp [maxLen], Rd.nil _ _⟩
  · simp [Value.cells] at hcs
    obtain ⟨rfl, rfl, rfl⟩ := hcs
    have hlz : len ≤ zs.length := by rw [hz]; split <;> omega
    refine ⟨some x, cap, (zs.take len).map (BitVec.ofInt 8), ?_, ?_, hm, ?_⟩
    · simp [Nat.min_eq_left hlz]
    · simp [Nat.min_eq_left hlz, hl]
    · intro i hi
      simp only [vbs_length, List.length_map, List.length_take, Nat.min_eq_left hlz] at hi
      obtain ⟨b, off, rfl, hc⟩ := ints_at hcell (by omega)
      refine ⟨b, off, rfl, ?_⟩
      rw [hc i (by omega)]
      have hmem : zs.getD i 0 ∈ zs := by simp [List.getD, show i < zs.length by omega]
      have hw := hwz _ hmem
      have hb : 0 ≤ zs.getD i 0 ∧ zs.getD i 0 ≤ 255 := by simpa [Lit.wf, IntKind.min, IntKind.max, IntKind.signed, IntKind.bits] using hw
      rw [vbs_get _ _ (by simp; omega)]
      simp only [List.getElem_map, List.getElem_take, vb]
      rw [nb_ofInt _ (by have := hb.1; simp [List.getD, show i < zs.length by omega] at this ⊢; exact this) (by have := hb.2; simp [List.getD, show i < zs.length by omega] at this ⊢; omega)]
      simp [List.getD, show i < zs.length by omega]
set_option maxRecDepth 100000 in
/-- A []int that came in. -/
theorem open_intl {r : Reach} {b0 : Nat} {base : Nat} {spare : Nat → Bool} {held : Bool} (hv : Value.okWide Tryd.prog W r b0 48 v) (h : DataW.Trod enc Tryd.prog W base spare held 48 v d p) :
    ∃ A c zs, v = .slice A (zs : List Int).length c ∧ zs.length ≤ c ∧ c ≤ maxLen ∧ RdV W A (zs.map (Value.int .i64)) ∧ ∀ z ∈ zs, -9223372036854775808 ≤ z ∧ z ≤ 9223372036854775807 := by
  obtain ⟨a, len, cap, rfl⟩ := okWide_slice Tryd.underlying48 hv
  obtain ⟨fuel, hf⟩ := h
  rcases open_ints Tryd.underlying48 Tryd.underlying3 (by kernel_rfl) hf with ⟨hcs, _⟩ | ⟨x, l, c, zs, hcs, _, hl, hm, hz, _, hcell, hwz⟩
  · simp [Value.cells] at hcs
    obtain ⟨rfl, rfl, rfl⟩ := hcs
    exact ⟨none, 0, [], rfl, by simp, by simp [maxLen], RdV.nil _ _, by simp⟩
  · simp [Value.cells] at hcs
    obtain ⟨rfl, rfl, rfl⟩ := hcs
    have hlz : len ≤ zs.length := by rw [hz]; split <;> omega
    refine ⟨some x, cap, zs.take len, ?_, ?_, hm, ?_, ?_⟩
    · simp [Nat.min_eq_left hlz]
    · simp [Nat.min_eq_left hlz, hl]
    · intro i hi
      simp only [List.length_map, List.length_take, Nat.min_eq_left hlz] at hi
      obtain ⟨b, off, rfl, hc⟩ := ints_at hcell (by omega)
      refine ⟨b, off, rfl, ?_⟩
      rw [hc i (by omega)]
      simp [List.getD, show i < zs.length by omega]
    · intro z hz'
      exact wf_i64 (hwz z (List.mem_of_mem_take hz'))
end

end Go.Proofs.YtihljjfnjclefaaDoor
/- A page as it comes in, opened. -/
set_option linter.unusedVariables false
set_option linter.unusedSimpArgs false
namespace Go.Proofs.YtihljjfnjclefaaDoor
open Go.ChangeShapes Go.WideShapes Go.ChangeAt Go.RowKit

section
variable {H : Type} {enc : TypeId × Value → H} {W : World} {v : Value} {d : DataW H} {p : List MemPlace}
set_option maxRecDepth 100000 in
theorem open_bytesC {base : Nat} {spare : Nat → Bool} {held : Bool} {n : Nat} {y : DataW H × List MemPlace} (hf : DataW.trod enc Tryd.prog W base spare held n 23 [v] = some y) :
    ∃ A c xs, v = .slice A (xs : List Byte).length c ∧ xs.length ≤ c ∧ c ≤ maxLen ∧ Rd W A xs := by
  rcases open_ints Tryd.underlying23 Tryd.underlying5 (by kernel_rfl) hf with ⟨hcs, _⟩ | ⟨x, len, cap, zs, hcs, _, hl, hm, hz, _, hcell, hwz⟩
  · simp at hcs
    subst hcs
    exact ⟨none, 0, [], rfl, by simp, by simp [maxLen], Rd.nil _ _⟩
  · simp at hcs
    subst hcs
    have hlz : len ≤ zs.length := by rw [hz]; split <;> omega
    refine ⟨some x, cap, (zs.take len).map (BitVec.ofInt 8), ?_, ?_, hm, ?_⟩
    · simp [Nat.min_eq_left hlz]
    · simp [Nat.min_eq_left hlz, hl]
    · intro i hi
      simp only [vbs_length, List.length_map, List.length_take, Nat.min_eq_left hlz] at hi
      obtain ⟨b, off, rfl, hc⟩ := ints_at hcell (by omega)
      refine ⟨b, off, rfl, ?_⟩
      rw [hc i (by omega)]
      have hmem : zs.getD i 0 ∈ zs := by simp [List.getD, show i < zs.length by omega]
      have hw := hwz _ hmem
      have hb : 0 ≤ zs.getD i 0 ∧ zs.getD i 0 ≤ 255 := by simpa [Lit.wf, IntKind.min, IntKind.max, IntKind.signed, IntKind.bits] using hw
      rw [vbs_get _ _ (by simp; omega)]
      simp only [List.getElem_map, List.getElem_take, vb]
      rw [nb_ofInt _ (by have := hb.1; simp [List.getD, show i < zs.length by omega] at this ⊢; exact this) (by have := hb.2; simp [List.getD, show i < zs.length by omega] at this ⊢; omega)]
      simp [List.getD, show i < zs.length by omega]
set_option maxRecDepth 100000 in
theorem open_page {r : Reach} {b0 : Nat} {base : Nat} {spare : Nat → Bool} {held : Bool} (hv : Value.okWide Tryd.prog W r b0 25 v) (h : DataW.Trod enc Tryd.prog W base spare held 25 v d p) :
    ∃ K nn A c x, v = .agg #[.int .i64 K, .int .u32 (nb (nn : BitVec 32)), .slice A (x : List Byte).length c] ∧ x.length ≤ c ∧ c ≤ maxLen ∧ Rd W A x ∧ (-9223372036854775808 ≤ K ∧ K ≤ 9223372036854775807) := by
  obtain ⟨v0, v1, v2, y0, y1, y2, n, rfl, -, -, h0, h1, h2⟩ := Go.Joins.open_agg3 Tryd.underlying25 (by kernel_rfl) (by kernel_rfl) hv h
  obtain ⟨A, c, x, rfl, k1, k2, k3⟩ := open_bytesC h2
  obtain ⟨z1, e1, -, w1⟩ := DataW.trod_int Tryd.underlying3 h0
  obtain ⟨z2, e2, -, w2⟩ := DataW.trod_int Tryd.underlying22 h1
  simp only [List.cons.injEq, and_true] at e1 e2
  subst e1 e2
  obtain ⟨nn, rfl⟩ := wf_u32 w2
  exact ⟨z1, nn, A, c, x, rfl, k1, k2, k3, wf_i64 w1⟩
end
end Go.Proofs.YtihljjfnjclefaaDoor
