/- Walks and laws that the claim's last text stands on, several texts in one file: RtH, RtI, DskJ, DskP. Under the hypotheses that each theorem states. -/
import Derived.Test.YtihljjfnjclefaaMRta
import Derived.Test.YtihljjfnjclefaaMRtb
import Derived.Test.YtihljjfnjclefaaMRtc
import Derived.Test.YtihljjfnjclefaaMRtd
import Derived.Test.YtihljjfnjclefaaMRte
import Derived.Test.YtihljjfnjclefaaMRtf
import Derived.Test.YtihljjfnjclefaaMRtg
import Derived.Test.YtihljjfnjclefaaMRth
import Derived.Test.YtihljjfnjclefaaMRti
/- root: the walk through great and Write. -/
set_option linter.unusedVariables false
set_option linter.unusedSimpArgs false
namespace Go.Proofs.Ytihljjfnjclefaa
open Go.ChangeShapes Go.WideShapes Go.ChangeAt Go.RowKit
attribute [local go_sem] nb_nonneg nb_lt8 nb_lt64
set_option maxRecDepth 100000

def rtGreat (n : Nat) : Bool := decide (8 ≤ n / 8) && decide (n / 8 ≤ 4096)
set_option maxHeartbeats 400000 in
theorem rt_great {w : World} {F : List Nat} {g n : Nat} {D : DiskSt} (h : Dsk w F g n D) :
    Calls Try.prog 43 #[.pointer (some ⟨g, 0, none⟩)] w fun e w' => e = .returned (.bool (rtGreat n)) ∧ w = w' := by
  have HP := Lib.hid (pg_Pages h)
  have HR := Lib.hid (show rtGreat n = (decide (8 ≤ n / 8) && decide (n / 8 ≤ 4096)) from rfl)
  generalize rtGreat n = R at *
  generalize n / 8 = m at *
  clear h
  by_cases h1 : 8 ≤ m
  · have h1z : (8 : Int) ≤ (m : Int) := by omega
    by_cases h2 : m ≤ 4096
    · have h2z : (m : Int) ≤ 4096 := by omega
      have HRR := Lib.hid (show R = true from by rw [HR.out, decide_eq_true h1, decide_eq_true h2]; rfl)
      clear h1 h2
      go_enter Try.func43, Try.ntmps43
      go_wp2_with fail
      refine HP.out.mono ?_
      rintro e w1 ⟨rfl, rfl⟩
      go_wp2
      go_ret
      exact ⟨by rw [HRR.out]; rfl, rfl⟩
    · have h2z : ¬ (m : Int) ≤ 4096 := by omega
      have HRR := Lib.hid (show R = false from by rw [HR.out, decide_eq_false h2, Bool.and_false])
      have HDF := Lib.hid (show decide ((m : Int) ≤ 4096) = false from decide_eq_false h2z)
      clear h1 h2
      go_enter Try.func43, Try.ntmps43
      go_wp2_with fail
      refine HP.out.mono ?_
      rintro e w1 ⟨rfl, rfl⟩
      go_wp2
      go_ret
      exact ⟨by rw [HRR.out]; show Ending.returned (.bool (decide ((m : Int) ≤ 4096))) = _; rw [HDF.out], rfl⟩
  · have h1z : ¬ (8 : Int) ≤ (m : Int) := by omega
    have HRR := Lib.hid (show R = false from by rw [HR.out, decide_eq_false h1, Bool.false_and])
    clear h1
    go_enter Try.func43, Try.ntmps43
    go_wp2_with fail
    refine HP.out.mono ?_
    rintro e w1 ⟨rfl, rfl⟩
    go_wp2
    go_ret
    exact ⟨by rw [HRR.out]; rfl, rfl⟩
/-- What Write does: what it returns, and the disk. -/
def rtW (D : DiskSt) (n : Nat) (r : Rt) : Int × DiskSt := if rtOk r then (if r.P.toNat = n / 8 then sdSave D n (rtSlot r : Nat) (rtB r).1 else (2, D)) else (2, D)
set_option maxHeartbeats 2000000 in
theorem rt_Write {w : World} {F : List Nat} {g n : Nat} {D : DiskSt} (h : Dsk w F g n D) (r : Rt) :
    Calls Try.prog 14 #[.pointer (some ⟨g, 0, none⟩), rtV r] w fun e w' => e = .returned (.int .i64 (rtW D n r).1) ∧ DskRes w F g n (rtW D n r).2 w' := by
  obtain ⟨R, hR⟩ : ∃ R, R = rtW D n r := ⟨_, rfl⟩
  rw [← hR]
  unfold rtW at hR
  have HR := Lib.hid hR
  have HLT := Lib.hid h.lt
  have hn1 := h.ok.n1
  have hn2 := h.ok.n2
  obtain ⟨W1, hW1⟩ : ∃ W1 : World, W1 = w.alloc (.cells (rtCs r) 29) := ⟨_, rfl⟩
  have HF := Lib.hid (show FB w W1 from by rw [hW1]; exact (FB.refl w).alloc _)
  have HG := Lib.hid (show W1.heap[w.heap.size]? = some (.cells (rtCs r) 29 (0, 0)) from by rw [hW1]; exact heap_alloc_new w _)
  have HD := Lib.hid (h.fb HF.out)
  have HW1 := Lib.hid hW1
  have hn0 : ((n : Int) == 0) = false := by simp; omega
  have hwn : IntKind.u64.wrap ((n / 8 : Nat) : Int) = ((n / 8 : Nat) : Int) := by rw [wrap_u64]; omega
  have HWN := Lib.hid hwn
  have HPB := Lib.hid (show (r.P.toNat = n / 8 ↔ nb r.P = ((n / 8 : Nat) : Int)) from by unfold nb; omega)
  unfold rtV
  clear hR hW1 h hn1 hn2 hwn
  go_enter Try.func14, Try.ntmps14
  go_upto_region 1 with fail
  rw [← HW1.out]
  clear HW1
  go_wp2_with fail
  refine (dsk_Sectors HD.out).mono ?_
  rintro e w1 ⟨rfl, rfl⟩
  obtain ⟨q0, q1, q2, q3, q4, q5, q6, q7, q8⟩ := prow9 HG.out
  have hcb := rt_Bytes r W1
  unfold rtV rtCs at hcb
  generalize hyb : rtB r = yb at *
  obtain ⟨ys, eb⟩ := yb
  have HYB := Lib.hid hyb
  have HC := Lib.hid hcb
  clear hcb hyb
  go_wp2_with fail
  refine HC.out.mono ?_
  rintro e w2 ⟨A2, c2, rfl, ho, hb⟩
  simp only at ho
  have HO2 := Lib.hid ho
  have HF2 := Lib.hid (HF.out.trans hb)
  have HG2 := Lib.hid ((hb.block _ (Array.getElem?_eq_some_iff.1 HG.out).1).trans HG.out)
  have HD2 := Lib.hid (HD.out.fb hb)
  have HH2 := Lib.hid (show w.heap.size ≤ W1.heap.size from HF.out.le)
  clear ho hb HC q0 q1 q2 q3 q4 q5 q6 q7 q8 HG HD HF
  rcases rtB_len HYB.out with ⟨rfl, hyl, hok⟩ | ⟨rfl, rfl, hok⟩
  · rw [hok, if_pos rfl] at HR
    have HYL := Lib.hid hyl
    clear hok hyl
    go_upto_region 6 with fail
    obtain ⟨W0, hW0⟩ : ∃ W0 : World, W0 = w2 := ⟨_, rfl⟩
    rw [← hW0]
    refine region_sch (E := FB) ((0, true) :: (1, true) :: (2, true) :: (3, false) :: (4, true) :: (5, true) :: []) (by kernel_rfl) FB.refl fb_trans (fun _ _ d _ _ h => by cases d <;> exact h) (by kernel_rfl) ?_
    intro ops hops0
    have hops := Lib.hid hops0
    clear hops0
    have HF : FB W0 W0.drew := (FB.refl _).drew
    generalize W0.drew = wF at *
    have HFq := Lib.hid (show FB w2 wF from by rw [← hW0]; exact HF)
    clear hW0 HF
    have HG3 := Lib.hid ((HFq.out.block _ (Array.getElem?_eq_some_iff.1 HG2.out).1).trans HG2.out)
    have K1 := Lib.hid (prow9 HG3.out)
    have HD3 := Lib.hid (HD2.out.fb HFq.out)
    have HO3 := Lib.hid (FB.own HFq.out HO2.out)
    have HF3 := Lib.hid (HF2.out.trans HFq.out)
    have HF := FB.refl wF
    repeat (refine sch_take (o := ?_) (v := ?_) (a' := ?_) (at_of hops.out ?_) ?_ (fun W hW => ?_) ?_ ?_; rotate_left 3; (focus (simp only [List.getElem?_toArray, List.getElem?_cons_zero, List.getElem?_cons_succ]; rfl)); (focus (rw [hops.out]; rfl)); (focus (have u1 := FB.cell hW K1.out.2.1; go_simp; with_reducible rfl)); (focus (simp only [Act.put, List.setIfInBounds_toArray, List.set_cons_zero, List.set_cons_succ]; rfl)))
    (refine sch_call (o := ?_) (f := ?_) (args := ?_) (at_of hops.out ?_) ?_ ?_ ?_; rotate_left 3; (focus (simp only [List.getElem?_toArray, List.getElem?_cons_zero, List.getElem?_cons_succ]; rfl)); (focus (rw [hops.out]; rfl)); (focus (go_simp; constructor <;> with_reducible rfl)); (first | ((with_reducible refine (pg_Pages (HD3.out.fb HF)).mono ?_); rintro e w' ⟨rfl, rfl⟩; refine ⟨_, rfl, FB.refl _, ?_⟩; intro a' ha'; simp only [Act.put, List.setIfInBounds_toArray, List.set_cons_zero, List.set_cons_succ] at ha'; subst ha')))
    have hwn := HWN.out
    generalize n / 8 = m at *
    by_cases hp : r.P.toNat = m
    · have hpb : (nb r.P != (m : Int)) = false := by rw [HPB.out.1 hp]; simp
      rw [if_pos hp] at HR
      clear hp
      repeat (refine sch_take (o := ?_) (v := ?_) (a' := ?_) (at_of hops.out ?_) ?_ (fun W hW => ?_) ?_ ?_; rotate_left 3; (focus (simp only [List.getElem?_toArray, List.getElem?_cons_zero, List.getElem?_cons_succ]; rfl)); (focus (rw [hops.out]; rfl)); (focus (go_simp; with_reducible rfl)); (focus (simp only [Act.put, List.setIfInBounds_toArray, List.set_cons_zero, List.set_cons_succ]; rfl)))
      refine sch_done ?_
      clear hops HF
      obtain ⟨q0, q1, q2, q3, q4, q5, q6, q7, q8⟩ := prow9 HG3.out
      have hcs := rt_Slot r wF
      unfold rtV rtCs at hcs
      have HC := Lib.hid hcs
      clear hcs
      go_wp2_with fail
      refine HC.out.mono ?_
      rintro e w4 ⟨rfl, hb⟩
      have HD4 := Lib.hid (HD3.out.fb hb)
      have HO4 := Lib.hid (FB.own hb HO3.out)
      have HF4 := Lib.hid (HF3.out.trans hb)
      have HI := Lib.hid (Own.info HO4.out)
      clear hb q0 q1 q2 q3 q4 q5 q6 q7 q8 HC
      have hcv := pg_Save HD4.out (rtSlot r : Nat) A2 c2 ys (by rw [HYL.out]; omega) HI.out.1 HI.out.2.2.1 (fun ad ha hm => by have h1 := (HI.out.2.2.2.2 ad ha).1; have h2 := HLT.out _ hm; have := HH2.out; omega)
      rw [← HR.out] at hcv
      have HC := Lib.hid hcv
      clear hcv
      go_wp2_with fail
      refine HC.out.mono ?_
      rintro e w5 ⟨rfl, F2, hf2, hd, ht⟩
      have HE := Lib.hid (show DskRes w F g n R.2 w5 from ⟨F2, fun x hx => (hf2 x hx).imp id (fun k => Nat.le_trans HF4.out.le k), hd, (TS.of HF4.out).then ht⟩)
      clear hf2 hd ht
      go_wp2
      go_ret
      exact ⟨rfl, HE.out⟩
    · have hpb : (nb r.P != (m : Int)) = true := by simpa using fun e => hp (HPB.out.2 e)
      rw [if_neg hp] at HR
      clear hp
      repeat (refine sch_take (o := ?_) (v := ?_) (a' := ?_) (at_of hops.out ?_) ?_ (fun W hW => ?_) ?_ ?_; rotate_left 3; (focus (simp only [List.getElem?_toArray, List.getElem?_cons_zero, List.getElem?_cons_succ]; rfl)); (focus (rw [hops.out]; rfl)); (focus (go_simp; with_reducible rfl)); (focus (simp only [Act.put, List.setIfInBounds_toArray, List.set_cons_zero, List.set_cons_succ]; rfl)))
      refine sch_done ?_
      clear hops HF
      go_wp2
      go_ret
      rw [HR.out]
      exact ⟨rfl, F, fun x hx => .inl hx, HD3.out, TS.of HF3.out⟩
  · rw [hok, if_neg (by decide)] at HR
    clear hok
    go_wp2
    go_ret
    rw [HR.out]
    exact ⟨rfl, F, fun x hx => .inl hx, HD2.out, TS.of HF2.out⟩
end Go.Proofs.Ytihljjfnjclefaa
/- root: the walk through Find. -/
set_option linter.unusedVariables false
set_option linter.unusedSimpArgs false
namespace Go.Proofs.Ytihljjfnjclefaa
open Go.ChangeShapes Go.WideShapes Go.ChangeAt Go.RowKit
attribute [local go_sem] nb_nonneg nb_lt8 nb_lt64
set_option maxRecDepth 100000

/-- Two roots, as a row. -/
def rt2 (x y : Rt) : Array Value := #[.int .u64 (nb x.E), .int .u64 (nb x.P), .int .u64 (nb x.T), .int .u64 (nb x.S), .int .u64 (nb x.L), .int .u64 (nb x.a), .int .u64 (nb x.b), .int .u64 (nb x.c), .int .u64 (nb x.d), .int .u64 (nb y.E), .int .u64 (nb y.P), .int .u64 (nb y.T), .int .u64 (nb y.S), .int .u64 (nb y.L), .int .u64 (nb y.a), .int .u64 (nb y.b), .int .u64 (nb y.c), .int .u64 (nb y.d)]
theorem rt2_rows {W : World} {g : Nat} {x y : Rt} {t : TypeId} {fr : Nat × Nat} (h : W.heap[g]? = some (.cells (rt2 x y) t fr)) :
    (W.cell? ⟨g, 0, none⟩ = some (.int .u64 (nb x.E)) ∧ W.cell? ⟨g, 1, none⟩ = some (.int .u64 (nb x.P)) ∧ W.cell? ⟨g, 2, none⟩ = some (.int .u64 (nb x.T)) ∧ W.cell? ⟨g, 3, none⟩ = some (.int .u64 (nb x.S)) ∧ W.cell? ⟨g, 4, none⟩ = some (.int .u64 (nb x.L)) ∧
    W.cell? ⟨g, 5, none⟩ = some (.int .u64 (nb x.a)) ∧ W.cell? ⟨g, 6, none⟩ = some (.int .u64 (nb x.b)) ∧ W.cell? ⟨g, 7, none⟩ = some (.int .u64 (nb x.c)) ∧ W.cell? ⟨g, 8, none⟩ = some (.int .u64 (nb x.d))) ∧
    (W.cell? ⟨g, 9, none⟩ = some (.int .u64 (nb y.E)) ∧ W.cell? ⟨g, 10, none⟩ = some (.int .u64 (nb y.P)) ∧ W.cell? ⟨g, 11, none⟩ = some (.int .u64 (nb y.T)) ∧ W.cell? ⟨g, 12, none⟩ = some (.int .u64 (nb y.S)) ∧ W.cell? ⟨g, 13, none⟩ = some (.int .u64 (nb y.L)) ∧
    W.cell? ⟨g, 14, none⟩ = some (.int .u64 (nb y.a)) ∧ W.cell? ⟨g, 15, none⟩ = some (.int .u64 (nb y.b)) ∧ W.cell? ⟨g, 16, none⟩ = some (.int .u64 (nb y.c)) ∧ W.cell? ⟨g, 17, none⟩ = some (.int .u64 (nb y.d))) := by
  refine ⟨⟨?_, ?_, ?_, ?_, ?_, ?_, ?_, ?_, ?_⟩, ?_, ?_, ?_, ?_, ?_, ?_, ?_, ?_, ?_⟩ <;> (rw [cell_of_row _ _ _ _ _ _ h]; rfl)
/-- A root is stored into one of two places. -/
theorem rt2_store {W : World} {g : Nat} {x y : Rt} (h : W.heap[g]? = some (.cells (rt2 x y) 79 (0, 0))) (r : Rt) :
    (Instr.storeAt 29 (.pointer (some ⟨g, 0, none⟩)) (rtV r)).run Try.prog W = .ok () (W.setRow g (rt2 r y)) ∧ (Instr.storeAt 29 (.pointer (some ⟨g, 9, none⟩)) (rtV r)).run Try.prog W = .ok () (W.setRow g (rt2 x r)) := by
  have one : ∀ v ∈ (rtCs r).toList, v.oneCell' = true := fun v hv => (Array.all_eq_true_iff_forall_mem.1 (rtCs_one r)) v (by simpa using hv)
  obtain ⟨i, hi, hs⟩ : ∃ i, Try.prog.info? 29 = some i ∧ i.size = 9 := by
    cases hq : Try.prog.info? 29 with
    | none => have := rt_size; rw [hq] at this; cases this
    | some i => have := rt_size; rw [hq] at this; exact ⟨i, rfl, by simpa using this⟩
  have h0 := run_storeCells_at (P := Try.prog) g 0 79 (rtCs r).toList 0 (rt2 x y) W h (by simp [rtCs, rt2]) one
  have h9 := run_storeCells_at (P := Try.prog) g 9 79 (rtCs r).toList 0 (rt2 x y) W h (by simp [rtCs, rt2]) one
  have e0 : ((rt2 x y).toList.take (0 + 0) ++ (rtCs r).toList ++ (rt2 x y).toList.drop (0 + 0 + (rtCs r).toList.length)).toArray = rt2 r y := rfl
  have e9 : ((rt2 x y).toList.take (9 + 0) ++ (rtCs r).toList ++ (rt2 x y).toList.drop (9 + 0 + (rtCs r).toList.length)).toArray = rt2 x r := rfl
  rw [e0] at h0
  rw [e9] at h9
  refine ⟨?_, ?_⟩
  · simp only [Instr.storeAt, Instr.sureAddr, Sem.run_bind, Sem.run_pure, Result.andThen, rtV]
    simp [storeVar, sizeOf, typeInfo, hi, hs, Value.cells, h0, show (rtCs r).size = 9 from rfl]
  · simp only [Instr.storeAt, Instr.sureAddr, Sem.run_bind, Sem.run_pure, Result.andThen, rtV]
    simp [storeVar, sizeOf, typeInfo, hi, hs, Value.cells, h9, show (rtCs r).size = 9 from rfl]
theorem sdRead_keeps (D : DiskSt) (n : Nat) (k : Int) : (sdRead D n k).2.2.b = D.b ∧ (sdRead D n k).2.2.M = D.M := by
  unfold sdRead
  split
  · exact ⟨rfl, rfl⟩
  · split <;> exact ⟨rfl, rfl⟩
theorem sdRead_le2 {D : DiskSt} (hM : ∀ p ∈ D.M, p.2.length ≤ 512) (n : Nat) (k : Int) : (sdRead D n k).1.length ≤ 512 := by
  unfold sdRead
  split
  · simp
  · split
    · simp
    · simp only
      cases hc : cget D.M k with
      | none => exact sec_le _ _
      | some x => exact cget_len hM hc
theorem ldF_len (n : Nat) (k : Int) : ∀ (r i : Nat) (out : List Byte) (D : DiskSt), (∀ p ∈ D.M, p.2.length ≤ 512) → (ldF n k r i out D).1.length ≤ out.length + 512 * r
  | 0, i, out, D, h => by simp [ldF]
  | r + 1, i, out, D, h => by
    unfold ldF
    split
    · have h1 := sdRead_le2 h n (k * 8 + i)
      have h2 := ldF_len n k r (i + 1) (out ++ (sdRead D n (k * 8 + i)).1) (sdRead D n (k * 8 + i)).2.2 (by rw [(sdRead_keeps D n _).2]; exact h)
      rw [List.length_append] at h2
      omega
    · simp
theorem sdLoad_len {D : DiskSt} {n : Nat} (h : D.ok n) (k : Int) : (sdLoad D n k).1.length ≤ 4096 := by
  unfold sdLoad
  split
  · simp
  · have := ldF_len n k 8 0 [] D (fun p hp => by have := h.M p hp; omega)
    simpa using this
theorem rt_SlotU (r : Rt) (w : World) : Calls Try.prog 16 #[.agg #[.int .u64 (nb r.E), .int .u64 (nb r.P), .int .u64 (nb r.T), .int .u64 (nb r.S), .int .u64 (nb r.L), .int .u64 (nb r.a), .int .u64 (nb r.b), .int .u64 (nb r.c), .int .u64 (nb r.d)]] w fun e w' => e = .returned (.int .i64 (rtSlot r : Nat)) ∧ FB w w' := rt_Slot r w
/-- May what is read count, in this slot? -/
def fdS (x : Rt × Int) (s n : Nat) : Bool := decide (x.2 = 0) && decide (rtSlot x.1 = s) && decide (x.1.P.toNat = n / 8)
theorem rtCh_rt0 (a b : Rt) (p q : Bool) (h : (rtCh a b p q).2 = false) : (rtCh a b p q).1 = rt0 := by
  unfold rtCh at h ⊢
  split
  · rename_i hc; rw [if_pos hc] at h; cases h
  · rename_i hc
    rw [if_neg hc] at h
    split
    · rename_i hq; rw [if_pos hq] at h; cases h
    · rfl
def fdEnd (x0 x1 : Rt) (p0 p1 : Bool) (D : DiskSt) : (Rt × Int) × DiskSt := (((rtCh x0 x1 p0 p1).1, if (rtCh x0 x1 p0 p1).2 then 0 else 4), D)
def fdFrom1 (n : Nat) (x0 : Rt) (p0 : Bool) (D : DiskSt) : (Rt × Int) × DiskSt :=
  if (sdLoad D n 1).2.1 = 0 then (if fdS (rtR (sdLoad D n 1).1) 1 n then fdEnd x0 (rtR (sdLoad D n 1).1).1 p0 true (sdLoad D n 1).2.2 else fdEnd x0 rt0 p0 false (sdLoad D n 1).2.2) else ((rt0, (sdLoad D n 1).2.1), (sdLoad D n 1).2.2)
def fdFrom0 (n : Nat) (D : DiskSt) : (Rt × Int) × DiskSt :=
  if (sdLoad D n 0).2.1 = 0 then (if fdS (rtR (sdLoad D n 0).1) 0 n then fdFrom1 n (rtR (sdLoad D n 0).1).1 true (sdLoad D n 0).2.2 else fdFrom1 n rt0 false (sdLoad D n 0).2.2) else ((rt0, (sdLoad D n 0).2.1), (sdLoad D n 0).2.2)
/-- What Find does. -/
def rtFd (D : DiskSt) (n : Nat) : (Rt × Int) × DiskSt := if rtGreat n then fdFrom0 n D else ((rt0, 2), D)
/-- What stands in memory between the rounds. -/
structure FdSt (w W : World) (F : List Nat) (g n N gT gI : Nat) (x0 x1 : Rt) (p0 p1 : Bool) (D : DiskSt) : Prop where
  dsk : Dsk W F g n D
  ts : TS F w W
  rN : W.heap[N]? = some (.cells (rtCs rt0) 29 (0, 0))
  rT : W.heap[gT]? = some (.cells (rt2 x0 x1) 79 (0, 0))
  rI : W.heap[gI]? = some (.cells #[.bool p0, .bool p1] 80 (0, 0))
  lt : ∀ x ∈ F, x < N
  le : w.heap.size ≤ N
  nt : N < gT
  ti : gT < gI
theorem FdSt.step {w W W' : World} {F : List Nat} {g n N gT gI : Nat} {x0 x1 : Rt} {p0 p1 : Bool} {D D' : DiskSt} (h : FdSt w W F g n N gT gI x0 x1 p0 p1 D) (k : TS F W W') (hd : Dsk W' F g n D') : FdSt w W' F g n N gT gI x0 x1 p0 p1 D' :=
  have hb : ∀ {b : Nat} {o : Obj}, W.heap[b]? = some o → b ∉ F → W'.heap[b]? = some o := fun {b o} h1 h2 => (k.block b (Array.getElem?_eq_some_iff.1 h1).1 h2).trans h1
  have h1 := h.nt
  have h2 := h.ti
  ⟨hd, h.ts.then k, hb h.rN (fun hm => by have := h.lt _ hm; omega), hb h.rT (fun hm => by have := h.lt _ hm; omega), hb h.rI (fun hm => by have := h.lt _ hm; omega), h.lt, h.le, h.nt, h.ti⟩
theorem FdSt.fb {w W W' : World} {F : List Nat} {g n N gT gI : Nat} {x0 x1 : Rt} {p0 p1 : Bool} {D : DiskSt} (h : FdSt w W F g n N gT gI x0 x1 p0 p1 D) (k : FB W W') : FdSt w W' F g n N gT gI x0 x1 p0 p1 D := h.step (TS.of k) (h.dsk.fb k)
theorem FdSt.setT {w W : World} {F : List Nat} {g n N gT gI : Nat} {x0 x1 y0 y1 : Rt} {p0 p1 : Bool} {D : DiskSt} (h : FdSt w W F g n N gT gI x0 x1 p0 p1 D) : FdSt w (W.setRow gT (rt2 y0 y1)) F g n N gT gI y0 y1 p0 p1 D :=
  have h1 := h.nt
  have h2 := h.ti
  have k := TS.tb (F := [gT]) (TB.setRow gT W (rt2 y0 y1)) (by simp)
  ⟨h.dsk.ts k (fun x hx hm => by simp at hx; have := h.lt _ hm; omega), h.ts.trans k (fun x hx => .inr (by simp at hx; have := h.le; omega)), (setRow_other W gT N _ (by omega)).trans h.rN, setRow_heap _ _ _ _ _ _ h.rT, (setRow_other W gT gI _ (by omega)).trans h.rI, h.lt, h.le, h.nt, h.ti⟩
theorem FdSt.storeT {w W : World} {F : List Nat} {g n N gT gI : Nat} {x0 x1 : Rt} {p0 p1 : Bool} {D : DiskSt} (h : FdSt w W F g n N gT gI x0 x1 p0 p1 D) (r : Rt) :
    (∃ W', (Instr.storeAt 29 (.pointer (some ⟨gT, 0, none⟩)) (rtV r)).run Try.prog W = .ok () W' ∧ FdSt w W' F g n N gT gI r x1 p0 p1 D) ∧ (∃ W', (Instr.storeAt 29 (.pointer (some ⟨gT, 9, none⟩)) (rtV r)).run Try.prog W = .ok () W' ∧ FdSt w W' F g n N gT gI x0 r p0 p1 D) :=
  ⟨⟨_, (rt2_store h.rT r).1, h.setT⟩, ⟨_, (rt2_store h.rT r).2, h.setT⟩⟩
theorem FdSt.setI {w W : World} {F : List Nat} {g n N gT gI : Nat} {x0 x1 : Rt} {p0 p1 : Bool} {D : DiskSt} (h : FdSt w W F g n N gT gI x0 x1 p0 p1 D) (q : Bool) : FdSt w (W.setCell ⟨gI, 0, none⟩ (.bool q)) F g n N gT gI x0 x1 q p1 D ∧ FdSt w (W.setCell ⟨gI, 1, none⟩ (.bool q)) F g n N gT gI x0 x1 p0 q D := by
  have h1 := h.nt
  have h2 := h.ti
  have k := fun i => TS.tb (F := [gI]) (TB.set (g := gI) W i (.bool q)) (by simp)
  have d := fun i => h.dsk.ts (k i) (fun x hx hm => by simp at hx; have := h.lt _ hm; omega)
  have t := fun i => h.ts.trans (k i) (fun x hx => .inr (by simp at hx; have := h.le; omega))
  have r := fun i (b : Nat) (o : Obj) (hb : W.heap[b]? = some o) (hn : b < gI) => ((k i).block b (Array.getElem?_eq_some_iff.1 hb).1 (by simp; omega)).trans hb
  refine ⟨⟨d 0, t 0, r 0 _ _ h.rN (by omega), r 0 _ _ h.rT (by omega), ?_, h.lt, h.le, h.nt, h.ti⟩, ⟨d 1, t 1, r 1 _ _ h.rN (by omega), r 1 _ _ h.rT (by omega), ?_, h.lt, h.le, h.nt, h.ti⟩⟩
  · rw [heap_setCell_same _ _ 0 _ _ _ h.rI]; rfl
  · rw [heap_setCell_same _ _ 1 _ _ _ h.rI]; rfl
theorem FdSt.end {w W : World} {F : List Nat} {g n N gT gI : Nat} {x0 x1 : Rt} {p0 p1 : Bool} {D : DiskSt} (h : FdSt w W F g n N gT gI x0 x1 p0 p1 D) (r : Rt) : Dsk (W.setRow N (rtCs r)) F g n D ∧ TS F w (W.setRow N (rtCs r)) ∧ (W.setRow N (rtCs r)).heap[N]? = some (.cells (rtCs r) 29 (0, 0)) :=
  have k := TS.tb (F := [N]) (TB.setRow N W (rtCs r)) (by simp)
  ⟨h.dsk.ts k (fun x hx hm => by simp at hx; have := h.lt _ hm; omega), h.ts.trans k (fun x hx => .inr (by simp at hx; have := h.le; omega)), setRow_heap _ _ _ _ _ _ h.rN⟩
theorem rt2_zero : rt2 rt0 rt0 = #[.int .u64 0, .int .u64 0, .int .u64 0, .int .u64 0, .int .u64 0, .int .u64 0, .int .u64 0, .int .u64 0, .int .u64 0, .int .u64 0, .int .u64 0, .int .u64 0, .int .u64 0, .int .u64 0, .int .u64 0, .int .u64 0, .int .u64 0, .int .u64 0] := rfl
set_option maxHeartbeats 8000000 in
theorem rt_Find {w : World} {F : List Nat} {g n : Nat} {D : DiskSt} (h : Dsk w F g n D) :
    Calls Try.prog 11 #[.pointer (some ⟨g, 0, none⟩)] w fun e w' => e = .returned (.tuple #[rtV (rtFd D n).1.1, .int .i64 (rtFd D n).1.2]) ∧ Dsk w' F g n (rtFd D n).2 ∧ TS F w w' := by
  obtain ⟨R, hR⟩ : ∃ R, R = rtFd D n := ⟨_, rfl⟩
  rw [← hR]
  unfold rtFd at hR
  have hn1 := h.ok.n1
  have hn2 := h.ok.n2
  have hn0 : ((n : Int) == 0) = false := by simp; omega
  have HWN := Lib.hid (show IntKind.u64.wrap ((n / 8 : Nat) : Int) = ((n / 8 : Nat) : Int) from by rw [wrap_u64]; omega)
  have HLT := Lib.hid h.lt
  obtain ⟨W1, hW1⟩ : ∃ W1 : World, W1 = w.alloc (.cells (rtCs rt0) 29) := ⟨_, rfl⟩
  have HF1 := Lib.hid (show FB w W1 from by rw [hW1]; exact (FB.refl w).alloc _)
  have HN1 := Lib.hid (show W1.heap[w.heap.size]? = some (.cells (rtCs rt0) 29 (0, 0)) from by rw [hW1]; exact heap_alloc_new w _)
  have HD1 := Lib.hid (h.fb HF1.out)
  have HW1 := Lib.hid hW1
  clear hW1 h hn1 hn2
  cases hgr : rtGreat n with
  | false =>
    rw [hgr, if_neg (by decide)] at hR
    have HR := Lib.hid hR
    have hs0 := rt_store rt0 rt0 HN1.out
    unfold rtV at hs0
    rw [rt0_cs] at hs0
    have HE := Lib.hid (show Dsk (W1.setRow w.heap.size (rtCs rt0)) F g n D ∧ TS F w (W1.setRow w.heap.size (rtCs rt0)) ∧ (W1.setRow w.heap.size (rtCs rt0)).heap[w.heap.size]? = some (.cells (rtCs rt0) 29 (0, 0)) from
      have k := TS.tb (F := [w.heap.size]) (TB.setRow w.heap.size W1 (rtCs rt0)) (by simp)
      ⟨HD1.out.ts k (fun x hx hm => by simp at hx; have := HLT.out _ hm; omega), (TS.of HF1.out).trans k (fun x hx => .inr (by simp at hx; omega)), setRow_heap _ _ _ _ _ _ HN1.out⟩)
    have hcg := rt_great HD1.out
    rw [hgr] at hcg
    have HC := Lib.hid hcg
    clear hcg hgr hR
    go_enter Try.func11, Try.ntmps11
    go_upto_region 1 with fail
    rw [← rt0_cs, ← HW1.out]
    clear HW1
    go_wp2_with fail
    refine (dsk_Sectors HD1.out).mono ?_
    rintro e w1 ⟨rfl, rfl⟩
    go_wp2_with fail
    refine HC.out.mono ?_
    rintro e w1 ⟨rfl, rfl⟩
    go_wp2_with (refine wpList_store_by rfl _ _ _ rfl _ hs0 ?_)
    try simp only [Exit.inBlock, Exit.then]
    refine bodyPost_ret (rt_ret rfl _ w.heap.size rfl _ HE.out.2.2) rfl ?_
    rw [HR.out]
    exact ⟨rfl, HE.out.1, HE.out.2.1⟩
  | true =>
    rw [hgr, if_pos rfl] at hR
    have HR := Lib.hid hR
    have hcg := rt_great HD1.out
    rw [hgr] at hcg
    have HC := Lib.hid hcg
    clear hcg hgr hR
    go_enter Try.func11, Try.ntmps11
    go_upto_region 1 with fail
    rw [← rt0_cs, ← HW1.out]
    clear HW1
    go_wp2_with fail
    refine (dsk_Sectors HD1.out).mono ?_
    rintro e w1 ⟨rfl, rfl⟩
    go_wp2_with fail
    refine HC.out.mono ?_
    rintro e w1 ⟨rfl, rfl⟩
    clear HC
    obtain ⟨W3, hW3⟩ : ∃ W3 : World, W3 = (W1.alloc (.cells (rt2 rt0 rt0) 79)).alloc (.cells #[.bool false, .bool false] 80) := ⟨_, rfl⟩
    have HS3 := Lib.hid (show FdSt w W3 F g n w.heap.size W1.heap.size (W1.heap.size + 1) rt0 rt0 false false D from by
      have f1 := (FB.refl W1).alloc (.cells (rt2 rt0 rt0) 79)
      have f2 := (FB.refl (W1.alloc (.cells (rt2 rt0 rt0) 79))).alloc (.cells #[.bool false, .bool false] 80)
      have hb := FB.block (f1.trans f2) _ (Array.getElem?_eq_some_iff.1 HN1.out).1
      rw [hW3]
      refine ⟨HD1.out.fb (f1.trans f2), TS.of (HF1.out.trans (f1.trans f2)), hb.trans HN1.out, ?_, ?_, HLT.out, Nat.le_refl _, (Array.getElem?_eq_some_iff.1 HN1.out).1, by omega⟩
      · rw [f2.block _ (by simp)]; exact heap_alloc_new _ _
      · have := heap_alloc_new (W1.alloc (.cells (rt2 rt0 rt0) 79)) (.cells #[.bool false, .bool false] 80)
        simpa using this)
    have HW3 := Lib.hid hW3
    clear hW3
    go_upto_region 7 with fail
    rw [← rt2_zero, ← HW3.out]
    clear HW3 HD1 HN1 HF1
    generalize W1.heap.size + 1 = gI at *
    generalize W1.heap.size = gT at *
    go_wp2_with fail
    go_loopw [6, 7, 8, 24] (fun _ _ _ i wr => ∃ (k : Nat) (x0 x1 : Rt) (p0 p1 : Bool) (D' : DiskSt), k ≤ 2 ∧ i = .int .i64 k ∧ Hid (FdSt w wr F g n w.heap.size gT gI x0 x1 p0 p1 D') ∧ Hid (k = 0 → x1 = rt0 ∧ p1 = false ∧ x0 = rt0 ∧ p0 = false ∧ R = fdFrom0 n D') ∧ Hid (k = 1 → x1 = rt0 ∧ p1 = false ∧ R = fdFrom1 n x0 p0 D') ∧ Hid (k = 2 → R = fdEnd x0 x1 p0 p1 D')) (fun _ _ _ i _ => 2 - (intOf i).toNat)
    case atStart => exact ⟨0, rt0, rt0, false, false, D, by omega, rfl, HS3, Lib.hid (fun _ => ⟨rfl, rfl, rfl, rfl, HR.out⟩), Lib.hid (fun h => by omega), Lib.hid (fun h => by omega)⟩
    case round =>
      obtain ⟨k, x0, x1, p0, p1, D', hk, rfl, HS, H0, H1, H2⟩ := hrel
      clear HS3 HR
      rcases (show k = 0 ∨ k = 1 ∨ k = 2 by omega) with rfl | rfl | rfl
      · obtain ⟨rfl, rfl, rfl, rfl, hr⟩ := H0.out rfl
        have HR := Lib.hid hr
        clear hr H0 H1 H2
        have hcl := pg_Load HS.out.dsk 0
        have HLL := Lib.hid (show (sdLoad D' n 0).1.length ≤ 4096 from sdLoad_len HS.out.dsk.ok 0)
        unfold fdFrom0 at HR
        generalize sdLoad D' n 0 = ld at *
        obtain ⟨b, eb, D2⟩ := ld
        have HC := Lib.hid hcl
        clear hcl
        go_wp2_with fail
        refine HC.out.mono ?_
        rintro e w4 ⟨A4, c4, rfl, hrb, -, hd, ht, hlc, hlm⟩
        try simp only at hrb
        try simp only at hd
        try simp only at hlc
        try simp only at HR
        try simp only at HLL
        have HS4 := Lib.hid (HS.out.step ht hd)
        have HB4 := Lib.hid (And.intro hrb (And.intro hlc hlm))
        clear hrb hd ht hlc hlm HC HS
        by_cases heb : eb = 0
        · subst heb
          rw [if_pos rfl] at HR
          have hcr := rt_Read b A4 c4 w4 (by have := HLL.out; omega) HB4.out.2.1 HB4.out.2.2 HB4.out.1
          generalize rtR b = rr at *
          obtain ⟨s, es⟩ := rr
          unfold rtV rtCs at hcr
          try simp only at hcr
          have HC := Lib.hid hcr
          clear hcr
          go_wp2_with fail
          refine HC.out.mono ?_
          rintro e w5 ⟨rfl, hb⟩
          obtain ⟨W6, hW6⟩ : ∃ W6 : World, W6 = w5.alloc (.cells (rtCs s) 29) := ⟨_, rfl⟩
          have HS6 := Lib.hid (show FdSt w W6 F g n w.heap.size gT gI rt0 rt0 false false D2 from by rw [hW6]; exact (HS4.out.fb hb).fb ((FB.refl w5).alloc _))
          have HG6 := Lib.hid (show W6.heap[w5.heap.size]? = some (.cells (rtCs s) 29 (0, 0)) from by rw [hW6]; exact heap_alloc_new w5 _)
          unfold rtCs at hW6
          have HW6 := Lib.hid hW6
          clear hW6 hb HC HS4 HB4 HLL
          try simp only
          go_upto_region 14 with fail
          rw [← HW6.out]
          clear HW6
          generalize w5.heap.size = gS at *
          obtain ⟨W0, hW0⟩ : ∃ W0 : World, W0 = W6 := ⟨_, rfl⟩
          rw [← hW0]
          refine region_sch (E := FB) ((0, true) :: (1, true) :: (2, true) :: (3, true) :: (5, true) :: (4, false) :: (6, true) :: (7, true) :: (8, true) :: (9, true) :: (10, true) :: (11, true) :: (12, false) :: (13, true) :: (14, true) :: (15, true) :: []) (by kernel_rfl) FB.refl fb_trans (fun _ _ d _ _ h => by cases d <;> exact h) (by kernel_rfl) ?_
          intro ops hops0
          have hops := Lib.hid hops0
          clear hops0
          have HF : FB W0 W0.drew := (FB.refl _).drew
          generalize W0.drew = wF at *
          have HFq := Lib.hid (show FB W6 wF from by rw [← hW0]; exact HF)
          clear hW0 HF
          have HGq := Lib.hid ((HFq.out.block _ (Array.getElem?_eq_some_iff.1 HG6.out).1).trans HG6.out)
          have HSq := Lib.hid (HS6.out.fb HFq.out)
          have K1 := Lib.hid (prow9 HGq.out)
          have HF := FB.refl wF
          clear HFq HG6 HS6
          by_cases hes : es = 0
          · subst hes
            repeat (refine sch_take (o := ?_) (v := ?_) (a' := ?_) (at_of hops.out ?_) ?_ (fun W hW => ?_) ?_ ?_; rotate_left 3; (focus (simp only [List.getElem?_toArray, List.getElem?_cons_zero, List.getElem?_cons_succ]; rfl)); (focus (rw [hops.out]; rfl)); (focus (have u0 := FB.cell hW K1.out.1; have u1 := FB.cell hW K1.out.2.1; have u2 := FB.cell hW K1.out.2.2.1; have u3 := FB.cell hW K1.out.2.2.2.1; have u4 := FB.cell hW K1.out.2.2.2.2.1; have u5 := FB.cell hW K1.out.2.2.2.2.2.1; have u6 := FB.cell hW K1.out.2.2.2.2.2.2.1; have u7 := FB.cell hW K1.out.2.2.2.2.2.2.2.1; have u8 := FB.cell hW K1.out.2.2.2.2.2.2.2.2; go_simp; with_reducible rfl)); (focus (simp only [Act.put, List.setIfInBounds_toArray, List.set_cons_zero, List.set_cons_succ]; rfl)))
            (refine sch_call (o := ?_) (f := ?_) (args := ?_) (at_of hops.out ?_) ?_ ?_ ?_; rotate_left 3; (focus (simp only [List.getElem?_toArray, List.getElem?_cons_zero, List.getElem?_cons_succ]; rfl)); (focus (rw [hops.out]; rfl)); (focus (go_simp; constructor <;> with_reducible rfl)); (first | ((with_reducible refine (rt_SlotU s _).mono ?_); rintro e w7 ⟨rfl, hb⟩; refine ⟨_, rfl, hb, ?_⟩; intro a' ha'; simp only [Act.put, List.setIfInBounds_toArray, List.set_cons_zero, List.set_cons_succ] at ha'; subst ha'; replace HF := HF.call hb; clear hb)))
            by_cases hsl : rtSlot s = 0
            · have hsb : ((rtSlot s : Nat) : Int) = 0 := by omega
              rw [hsb]
              repeat (refine sch_take (o := ?_) (v := ?_) (a' := ?_) (at_of hops.out ?_) ?_ (fun W hW => ?_) ?_ ?_; rotate_left 3; (focus (simp only [List.getElem?_toArray, List.getElem?_cons_zero, List.getElem?_cons_succ]; rfl)); (focus (rw [hops.out]; rfl)); (focus (have u1 := FB.cell (HF.trans hW) K1.out.2.1; go_simp; with_reducible rfl)); (focus (simp only [Act.put, List.setIfInBounds_toArray, List.set_cons_zero, List.set_cons_succ]; rfl)))
              (refine sch_call (o := ?_) (f := ?_) (args := ?_) (at_of hops.out ?_) ?_ ?_ ?_; rotate_left 3; (focus (simp only [List.getElem?_toArray, List.getElem?_cons_zero, List.getElem?_cons_succ]; rfl)); (focus (rw [hops.out]; rfl)); (focus (go_simp; constructor <;> with_reducible rfl)); (first | ((with_reducible refine (pg_Pages (HSq.out.dsk.fb HF)).mono ?_); rintro e w8 ⟨rfl, rfl⟩; refine ⟨_, rfl, FB.refl _, ?_⟩; intro a' ha'; simp only [Act.put, List.setIfInBounds_toArray, List.set_cons_zero, List.set_cons_succ] at ha'; subst ha')))
              have hwn := HWN.out
              by_cases hp : s.P.toNat = n / 8
              · have hpb : (nb s.P != ((n / 8 : Nat) : Int)) = false := by rw [show nb s.P = ((n / 8 : Nat) : Int) from by unfold nb; omega]; simp
                rw [show fdS (s, 0) 0 n = true from by unfold fdS; rw [decide_eq_true hsl, decide_eq_true hp]; rfl, if_pos rfl] at HR
                clear hp hsl hsb
                generalize n / 8 = m at *
                repeat (refine sch_take (o := ?_) (v := ?_) (a' := ?_) (at_of hops.out ?_) ?_ (fun W hW => ?_) ?_ ?_; rotate_left 3; (focus (simp only [List.getElem?_toArray, List.getElem?_cons_zero, List.getElem?_cons_succ]; rfl)); (focus (rw [hops.out]; rfl)); (focus (go_simp; with_reducible rfl)); (focus (simp only [Act.put, List.setIfInBounds_toArray, List.set_cons_zero, List.set_cons_succ]; rfl)))
                refine sch_done ?_
                have HS8 := Lib.hid (HSq.out.fb HF)
                have HG8 := Lib.hid ((HF.block _ (Array.getElem?_eq_some_iff.1 HGq.out).1).trans HGq.out)
                clear hops HF K1 HSq HGq hpb hwn
                obtain ⟨q0, q1, q2, q3, q4, q5, q6, q7, q8⟩ := prow9 HG8.out
                obtain ⟨W9, hst, hs9⟩ := (HS8.out.storeT s).1
                have HS9 := Lib.hid (show FdSt w W9 F g n w.heap.size gT gI s rt0 false false D2 from hs9)
                unfold rtV rtCs at hst
                obtain ⟨i0, i1⟩ := row2 HS9.out.rI
                have fi := frozen_row _ HS9.out.rI 0
                have HSA := Lib.hid (HS9.out.setI true).1
                clear hs9
                go_wp2_with (refine wpList_store_by rfl _ _ _ rfl _ hst ?_)
                go_round
                case rel => exact ⟨1, s, rt0, true, false, D2, by omega, rfl, HSA, Lib.hid (fun h => by omega), Lib.hid (fun _ => ⟨rfl, rfl, HR.out⟩), Lib.hid (fun h => by omega)⟩
                case measure => simp [intOf]
              · have hpb : (nb s.P != ((n / 8 : Nat) : Int)) = true := by simpa [nb] using fun e => hp (by omega)
                rw [show fdS (s, 0) 0 n = false from by unfold fdS; rw [decide_eq_false hp, Bool.and_false], if_neg (by decide)] at HR
                clear hp hsl hsb
                generalize n / 8 = m at *
                repeat (refine sch_take (o := ?_) (v := ?_) (a' := ?_) (at_of hops.out ?_) ?_ (fun W hW => ?_) ?_ ?_; rotate_left 3; (focus (simp only [List.getElem?_toArray, List.getElem?_cons_zero, List.getElem?_cons_succ]; rfl)); (focus (rw [hops.out]; rfl)); (focus (go_simp; with_reducible rfl)); (focus (simp only [Act.put, List.setIfInBounds_toArray, List.set_cons_zero, List.set_cons_succ]; rfl)))
                refine sch_done ?_
                have HS8 := Lib.hid (HSq.out.fb HF)
                clear hops HF K1 HSq HGq hpb hwn
                go_wp2_with fail
                go_round
                case rel => exact ⟨1, rt0, rt0, false, false, D2, by omega, rfl, HS8, Lib.hid (fun h => by omega), Lib.hid (fun _ => ⟨rfl, rfl, HR.out⟩), Lib.hid (fun h => by omega)⟩
                case measure => simp [intOf]
            · have hsb : (((rtSlot s : Nat) : Int) != 0) = true := by simpa using fun e => hsl (by omega)
              rw [show fdS (s, 0) 0 n = false from by unfold fdS; rw [decide_eq_false hsl, Bool.and_false, Bool.false_and], if_neg (by decide)] at HR
              clear hsl
              generalize rtSlot s = sl at *
              repeat (first | (refine sch_take (o := ?_) (v := ?_) (a' := ?_) (at_of hops.out ?_) ?_ (fun W hW => ?_) ?_ ?_; rotate_left 3; (focus (simp only [List.getElem?_toArray, List.getElem?_cons_zero, List.getElem?_cons_succ]; rfl)); (focus (rw [hops.out]; rfl)); (focus (go_simp; with_reducible rfl)); (focus (simp only [Act.put, List.setIfInBounds_toArray, List.set_cons_zero, List.set_cons_succ]; rfl))) | (refine sch_skip (o := ?_) (a' := ?_) FB.refl (at_of hops.out ?_) ?_ ?_ ?_; rotate_left 2; (focus (simp only [List.getElem?_toArray, List.getElem?_cons_zero, List.getElem?_cons_succ]; rfl)); (focus (rw [hops.out]; rfl)); (focus (simp only [Act.put, List.setIfInBounds_toArray, List.set_cons_zero, List.set_cons_succ]; rfl))))
              refine sch_done ?_
              have HS8 := Lib.hid (HSq.out.fb HF)
              clear hops HF K1 HSq HGq hsb
              go_wp2_with fail
              go_round
              case rel => exact ⟨1, rt0, rt0, false, false, D2, by omega, rfl, HS8, Lib.hid (fun h => by omega), Lib.hid (fun _ => ⟨rfl, rfl, HR.out⟩), Lib.hid (fun h => by omega)⟩
              case measure => simp [intOf]
          · have heb : (es != 0) = true := by simpa using hes
            rw [show fdS (s, es) 0 n = false from by unfold fdS; rw [decide_eq_false hes, Bool.false_and, Bool.false_and], if_neg (by decide)] at HR
            clear hes
            repeat (first | (refine sch_take (o := ?_) (v := ?_) (a' := ?_) (at_of hops.out ?_) ?_ (fun W hW => ?_) ?_ ?_; rotate_left 3; (focus (simp only [List.getElem?_toArray, List.getElem?_cons_zero, List.getElem?_cons_succ]; rfl)); (focus (rw [hops.out]; rfl)); (focus (go_simp; with_reducible rfl)); (focus (simp only [Act.put, List.setIfInBounds_toArray, List.set_cons_zero, List.set_cons_succ]; rfl))) | (refine sch_skip (o := ?_) (a' := ?_) FB.refl (at_of hops.out ?_) ?_ ?_ ?_; rotate_left 2; (focus (simp only [List.getElem?_toArray, List.getElem?_cons_zero, List.getElem?_cons_succ]; rfl)); (focus (rw [hops.out]; rfl)); (focus (simp only [Act.put, List.setIfInBounds_toArray, List.set_cons_zero, List.set_cons_succ]; rfl))))
            refine sch_done ?_
            clear hops HF K1 HGq heb
            go_wp2_with fail
            go_round
            case rel => exact ⟨1, rt0, rt0, false, false, D2, by omega, rfl, HSq, Lib.hid (fun h => by omega), Lib.hid (fun _ => ⟨rfl, rfl, HR.out⟩), Lib.hid (fun h => by omega)⟩
            case measure => simp [intOf]
        · have hbb : (eb != 0) = true := by simpa using heb
          rw [if_neg heb] at HR
          have hs0 := rt_store rt0 rt0 HS4.out.rN
          unfold rtV at hs0
          rw [rt0_cs] at hs0
          have HE := Lib.hid (HS4.out.end rt0)
          clear heb
          go_wp2_with (refine wpList_store_by rfl _ _ _ rfl _ hs0 ?_)
          try simp only [Exit.inBlock, Exit.then]
          refine bodyPost_ret (rt_ret rfl _ w.heap.size rfl _ HE.out.2.2) rfl ?_
          rw [HR.out]
          exact ⟨rfl, HE.out.1, HE.out.2.1⟩
      · obtain ⟨rfl, rfl, hr⟩ := H1.out rfl
        have HR := Lib.hid hr
        clear hr H0 H1 H2
        have hcl := pg_Load HS.out.dsk 1
        have HLL := Lib.hid (show (sdLoad D' n 1).1.length ≤ 4096 from sdLoad_len HS.out.dsk.ok 1)
        unfold fdFrom1 at HR
        generalize sdLoad D' n 1 = ld at *
        obtain ⟨b, eb, D2⟩ := ld
        have HC := Lib.hid hcl
        clear hcl
        go_wp2_with fail
        refine HC.out.mono ?_
        rintro e w4 ⟨A4, c4, rfl, hrb, -, hd, ht, hlc, hlm⟩
        try simp only at hrb
        try simp only at hd
        try simp only at hlc
        try simp only at HR
        try simp only at HLL
        have HS4 := Lib.hid (HS.out.step ht hd)
        have HB4 := Lib.hid (And.intro hrb (And.intro hlc hlm))
        clear hrb hd ht hlc hlm HC HS
        by_cases heb : eb = 0
        · subst heb
          rw [if_pos rfl] at HR
          have hcr := rt_Read b A4 c4 w4 (by have := HLL.out; omega) HB4.out.2.1 HB4.out.2.2 HB4.out.1
          generalize rtR b = rr at *
          obtain ⟨s, es⟩ := rr
          unfold rtV rtCs at hcr
          try simp only at hcr
          have HC := Lib.hid hcr
          clear hcr
          go_wp2_with fail
          refine HC.out.mono ?_
          rintro e w5 ⟨rfl, hb⟩
          obtain ⟨W6, hW6⟩ : ∃ W6 : World, W6 = w5.alloc (.cells (rtCs s) 29) := ⟨_, rfl⟩
          have HS6 := Lib.hid (show FdSt w W6 F g n w.heap.size gT gI x0 rt0 p0 false D2 from by rw [hW6]; exact (HS4.out.fb hb).fb ((FB.refl w5).alloc _))
          have HG6 := Lib.hid (show W6.heap[w5.heap.size]? = some (.cells (rtCs s) 29 (0, 0)) from by rw [hW6]; exact heap_alloc_new w5 _)
          unfold rtCs at hW6
          have HW6 := Lib.hid hW6
          clear hW6 hb HC HS4 HB4 HLL
          try simp only
          go_upto_region 14 with fail
          rw [← HW6.out]
          clear HW6
          generalize w5.heap.size = gS at *
          obtain ⟨W0, hW0⟩ : ∃ W0 : World, W0 = W6 := ⟨_, rfl⟩
          rw [← hW0]
          refine region_sch (E := FB) ((0, true) :: (1, true) :: (2, true) :: (3, true) :: (5, true) :: (4, false) :: (6, true) :: (7, true) :: (8, true) :: (9, true) :: (10, true) :: (11, true) :: (12, false) :: (13, true) :: (14, true) :: (15, true) :: []) (by kernel_rfl) FB.refl fb_trans (fun _ _ d _ _ h => by cases d <;> exact h) (by kernel_rfl) ?_
          intro ops hops0
          have hops := Lib.hid hops0
          clear hops0
          have HF : FB W0 W0.drew := (FB.refl _).drew
          generalize W0.drew = wF at *
          have HFq := Lib.hid (show FB W6 wF from by rw [← hW0]; exact HF)
          clear hW0 HF
          have HGq := Lib.hid ((HFq.out.block _ (Array.getElem?_eq_some_iff.1 HG6.out).1).trans HG6.out)
          have HSq := Lib.hid (HS6.out.fb HFq.out)
          have K1 := Lib.hid (prow9 HGq.out)
          have HF := FB.refl wF
          clear HFq HG6 HS6
          by_cases hes : es = 0
          · subst hes
            repeat (refine sch_take (o := ?_) (v := ?_) (a' := ?_) (at_of hops.out ?_) ?_ (fun W hW => ?_) ?_ ?_; rotate_left 3; (focus (simp only [List.getElem?_toArray, List.getElem?_cons_zero, List.getElem?_cons_succ]; rfl)); (focus (rw [hops.out]; rfl)); (focus (have u0 := FB.cell hW K1.out.1; have u1 := FB.cell hW K1.out.2.1; have u2 := FB.cell hW K1.out.2.2.1; have u3 := FB.cell hW K1.out.2.2.2.1; have u4 := FB.cell hW K1.out.2.2.2.2.1; have u5 := FB.cell hW K1.out.2.2.2.2.2.1; have u6 := FB.cell hW K1.out.2.2.2.2.2.2.1; have u7 := FB.cell hW K1.out.2.2.2.2.2.2.2.1; have u8 := FB.cell hW K1.out.2.2.2.2.2.2.2.2; go_simp; with_reducible rfl)); (focus (simp only [Act.put, List.setIfInBounds_toArray, List.set_cons_zero, List.set_cons_succ]; rfl)))
            (refine sch_call (o := ?_) (f := ?_) (args := ?_) (at_of hops.out ?_) ?_ ?_ ?_; rotate_left 3; (focus (simp only [List.getElem?_toArray, List.getElem?_cons_zero, List.getElem?_cons_succ]; rfl)); (focus (rw [hops.out]; rfl)); (focus (go_simp; constructor <;> with_reducible rfl)); (first | ((with_reducible refine (rt_SlotU s _).mono ?_); rintro e w7 ⟨rfl, hb⟩; refine ⟨_, rfl, hb, ?_⟩; intro a' ha'; simp only [Act.put, List.setIfInBounds_toArray, List.set_cons_zero, List.set_cons_succ] at ha'; subst ha'; replace HF := HF.call hb; clear hb)))
            by_cases hsl : rtSlot s = 1
            · have hsb : ((rtSlot s : Nat) : Int) = 1 := by omega
              rw [hsb]
              repeat (refine sch_take (o := ?_) (v := ?_) (a' := ?_) (at_of hops.out ?_) ?_ (fun W hW => ?_) ?_ ?_; rotate_left 3; (focus (simp only [List.getElem?_toArray, List.getElem?_cons_zero, List.getElem?_cons_succ]; rfl)); (focus (rw [hops.out]; rfl)); (focus (have u1 := FB.cell (HF.trans hW) K1.out.2.1; go_simp; with_reducible rfl)); (focus (simp only [Act.put, List.setIfInBounds_toArray, List.set_cons_zero, List.set_cons_succ]; rfl)))
              (refine sch_call (o := ?_) (f := ?_) (args := ?_) (at_of hops.out ?_) ?_ ?_ ?_; rotate_left 3; (focus (simp only [List.getElem?_toArray, List.getElem?_cons_zero, List.getElem?_cons_succ]; rfl)); (focus (rw [hops.out]; rfl)); (focus (go_simp; constructor <;> with_reducible rfl)); (first | ((with_reducible refine (pg_Pages (HSq.out.dsk.fb HF)).mono ?_); rintro e w8 ⟨rfl, rfl⟩; refine ⟨_, rfl, FB.refl _, ?_⟩; intro a' ha'; simp only [Act.put, List.setIfInBounds_toArray, List.set_cons_zero, List.set_cons_succ] at ha'; subst ha')))
              have hwn := HWN.out
              by_cases hp : s.P.toNat = n / 8
              · have hpb : (nb s.P != ((n / 8 : Nat) : Int)) = false := by rw [show nb s.P = ((n / 8 : Nat) : Int) from by unfold nb; omega]; simp
                rw [show fdS (s, 0) 1 n = true from by unfold fdS; rw [decide_eq_true hsl, decide_eq_true hp]; rfl, if_pos rfl] at HR
                clear hp hsl hsb
                generalize n / 8 = m at *
                repeat (refine sch_take (o := ?_) (v := ?_) (a' := ?_) (at_of hops.out ?_) ?_ (fun W hW => ?_) ?_ ?_; rotate_left 3; (focus (simp only [List.getElem?_toArray, List.getElem?_cons_zero, List.getElem?_cons_succ]; rfl)); (focus (rw [hops.out]; rfl)); (focus (go_simp; with_reducible rfl)); (focus (simp only [Act.put, List.setIfInBounds_toArray, List.set_cons_zero, List.set_cons_succ]; rfl)))
                refine sch_done ?_
                have HS8 := Lib.hid (HSq.out.fb HF)
                have HG8 := Lib.hid ((HF.block _ (Array.getElem?_eq_some_iff.1 HGq.out).1).trans HGq.out)
                clear hops HF K1 HSq HGq hpb hwn
                obtain ⟨q0, q1, q2, q3, q4, q5, q6, q7, q8⟩ := prow9 HG8.out
                obtain ⟨W9, hst, hs9⟩ := (HS8.out.storeT s).2
                have HS9 := Lib.hid (show FdSt w W9 F g n w.heap.size gT gI x0 s p0 false D2 from hs9)
                unfold rtV rtCs at hst
                obtain ⟨i0, i1⟩ := row2 HS9.out.rI
                have fi := frozen_row _ HS9.out.rI 1
                have HSA := Lib.hid (HS9.out.setI true).2
                clear hs9
                go_wp2_with (refine wpList_store_by rfl _ _ _ rfl _ hst ?_)
                go_round
                case rel => exact ⟨2, x0, s, p0, true, D2, by omega, rfl, HSA, Lib.hid (fun h => by omega), Lib.hid (fun h => by omega), Lib.hid (fun _ => HR.out)⟩
                case measure => simp [intOf]
              · have hpb : (nb s.P != ((n / 8 : Nat) : Int)) = true := by simpa [nb] using fun e => hp (by omega)
                rw [show fdS (s, 0) 1 n = false from by unfold fdS; rw [decide_eq_false hp, Bool.and_false], if_neg (by decide)] at HR
                clear hp hsl hsb
                generalize n / 8 = m at *
                repeat (refine sch_take (o := ?_) (v := ?_) (a' := ?_) (at_of hops.out ?_) ?_ (fun W hW => ?_) ?_ ?_; rotate_left 3; (focus (simp only [List.getElem?_toArray, List.getElem?_cons_zero, List.getElem?_cons_succ]; rfl)); (focus (rw [hops.out]; rfl)); (focus (go_simp; with_reducible rfl)); (focus (simp only [Act.put, List.setIfInBounds_toArray, List.set_cons_zero, List.set_cons_succ]; rfl)))
                refine sch_done ?_
                have HS8 := Lib.hid (HSq.out.fb HF)
                clear hops HF K1 HSq HGq hpb hwn
                go_wp2_with fail
                go_round
                case rel => exact ⟨2, x0, rt0, p0, false, D2, by omega, rfl, HS8, Lib.hid (fun h => by omega), Lib.hid (fun h => by omega), Lib.hid (fun _ => HR.out)⟩
                case measure => simp [intOf]
            · have hsb : (((rtSlot s : Nat) : Int) != 1) = true := by simpa using fun e => hsl (by omega)
              rw [show fdS (s, 0) 1 n = false from by unfold fdS; rw [decide_eq_false hsl, Bool.and_false, Bool.false_and], if_neg (by decide)] at HR
              clear hsl
              generalize rtSlot s = sl at *
              repeat (first | (refine sch_take (o := ?_) (v := ?_) (a' := ?_) (at_of hops.out ?_) ?_ (fun W hW => ?_) ?_ ?_; rotate_left 3; (focus (simp only [List.getElem?_toArray, List.getElem?_cons_zero, List.getElem?_cons_succ]; rfl)); (focus (rw [hops.out]; rfl)); (focus (go_simp; with_reducible rfl)); (focus (simp only [Act.put, List.setIfInBounds_toArray, List.set_cons_zero, List.set_cons_succ]; rfl))) | (refine sch_skip (o := ?_) (a' := ?_) FB.refl (at_of hops.out ?_) ?_ ?_ ?_; rotate_left 2; (focus (simp only [List.getElem?_toArray, List.getElem?_cons_zero, List.getElem?_cons_succ]; rfl)); (focus (rw [hops.out]; rfl)); (focus (simp only [Act.put, List.setIfInBounds_toArray, List.set_cons_zero, List.set_cons_succ]; rfl))))
              refine sch_done ?_
              have HS8 := Lib.hid (HSq.out.fb HF)
              clear hops HF K1 HSq HGq hsb
              go_wp2_with fail
              go_round
              case rel => exact ⟨2, x0, rt0, p0, false, D2, by omega, rfl, HS8, Lib.hid (fun h => by omega), Lib.hid (fun h => by omega), Lib.hid (fun _ => HR.out)⟩
              case measure => simp [intOf]
          · have heb : (es != 0) = true := by simpa using hes
            rw [show fdS (s, es) 1 n = false from by unfold fdS; rw [decide_eq_false hes, Bool.false_and, Bool.false_and], if_neg (by decide)] at HR
            clear hes
            repeat (first | (refine sch_take (o := ?_) (v := ?_) (a' := ?_) (at_of hops.out ?_) ?_ (fun W hW => ?_) ?_ ?_; rotate_left 3; (focus (simp only [List.getElem?_toArray, List.getElem?_cons_zero, List.getElem?_cons_succ]; rfl)); (focus (rw [hops.out]; rfl)); (focus (go_simp; with_reducible rfl)); (focus (simp only [Act.put, List.setIfInBounds_toArray, List.set_cons_zero, List.set_cons_succ]; rfl))) | (refine sch_skip (o := ?_) (a' := ?_) FB.refl (at_of hops.out ?_) ?_ ?_ ?_; rotate_left 2; (focus (simp only [List.getElem?_toArray, List.getElem?_cons_zero, List.getElem?_cons_succ]; rfl)); (focus (rw [hops.out]; rfl)); (focus (simp only [Act.put, List.setIfInBounds_toArray, List.set_cons_zero, List.set_cons_succ]; rfl))))
            refine sch_done ?_
            clear hops HF K1 HGq heb
            go_wp2_with fail
            go_round
            case rel => exact ⟨2, x0, rt0, p0, false, D2, by omega, rfl, HSq, Lib.hid (fun h => by omega), Lib.hid (fun h => by omega), Lib.hid (fun _ => HR.out)⟩
            case measure => simp [intOf]
        · have hbb : (eb != 0) = true := by simpa using heb
          rw [if_neg heb] at HR
          have hs0 := rt_store rt0 rt0 HS4.out.rN
          unfold rtV at hs0
          rw [rt0_cs] at hs0
          have HE := Lib.hid (HS4.out.end rt0)
          clear heb
          go_wp2_with (refine wpList_store_by rfl _ _ _ rfl _ hs0 ?_)
          try simp only [Exit.inBlock, Exit.then]
          refine bodyPost_ret (rt_ret rfl _ w.heap.size rfl _ HE.out.2.2) rfl ?_
          rw [HR.out]
          exact ⟨rfl, HE.out.1, HE.out.2.1⟩
      · have hr := H2.out rfl
        have HR := Lib.hid hr
        clear hr H0 H1 H2
        obtain ⟨⟨q0, q1, q2, q3, q4, q5, q6, q7, q8⟩, r0, r1, r2, r3, r4, r5, r6, r7, r8⟩ := rt2_rows HS.out.rT
        obtain ⟨i0, i1⟩ := row2 HS.out.rI
        have hcc := rt_Choose x0 x1 p0 p1 wr
        unfold fdEnd at HR
        unfold rtV rtCs at hcc
        have HRT := Lib.hid (rtCh_rt0 x0 x1 p0 p1)
        generalize rtCh x0 x1 p0 p1 = ch at *
        obtain ⟨s, ok⟩ := ch
        have HC := Lib.hid hcc
        clear hcc
        go_wp2_with fail
        refine HC.out.mono ?_
        rintro e w5 ⟨rfl, hb⟩
        obtain ⟨W6, hW6⟩ : ∃ W6 : World, W6 = w5.alloc (.cells (rtCs s) 29) := ⟨_, rfl⟩
        have HS6 := Lib.hid (show FdSt w W6 F g n w.heap.size gT gI x0 x1 p0 p1 D' from by rw [hW6]; exact (HS.out.fb hb).fb ((FB.refl w5).alloc _))
        have HG6 := Lib.hid (show W6.heap[w5.heap.size]? = some (.cells (rtCs s) 29 (0, 0)) from by rw [hW6]; exact heap_alloc_new w5 _)
        unfold rtCs at hW6
        have HW6 := Lib.hid hW6
        clear hW6 hb HC HS q0 q1 q2 q3 q4 q5 q6 q7 q8 r0 r1 r2 r3 r4 r5 r6 r7 r8 i0 i1
        try simp only
        try simp only at HR
        cases ok with
        | false =>
          have HSZ := Lib.hid (show s = rt0 from HRT.out rfl)
          have hs0 := rt_store rt0 rt0 HS6.out.rN
          unfold rtV at hs0
          rw [rt0_cs] at hs0
          have HE := Lib.hid (HS6.out.end rt0)
          go_upto_region 18 with fail
          rw [← HW6.out]
          clear HW6
          go_wp2_with (refine wpList_store_by rfl _ _ _ rfl _ hs0 ?_)
          try simp only [Exit.inBlock, Exit.then]
          refine bodyPost_ret (rt_ret rfl _ w.heap.size rfl _ HE.out.2.2) rfl ?_
          rw [HR.out, HSZ.out]
          exact ⟨rfl, HE.out.1, HE.out.2.1⟩
        | true =>
          obtain ⟨q0, q1, q2, q3, q4, q5, q6, q7, q8⟩ := prow9 HG6.out
          have hst := rt_store rt0 s HS6.out.rN
          unfold rtV rtCs at hst
          have HE := Lib.hid (HS6.out.end s)
          go_upto_region 18 with fail
          rw [← HW6.out]
          clear HW6
          go_wp2_with (refine wpList_store_by rfl _ _ _ rfl _ hst ?_)
          try simp only [Exit.inBlock, Exit.then]
          refine bodyPost_ret (rt_ret rfl _ w.heap.size rfl _ HE.out.2.2) rfl ?_
          rw [HR.out]
          exact ⟨rfl, HE.out.1, HE.out.2.1⟩
end Go.Proofs.Ytihljjfnjclefaa
/- Sectors: the walk through tallymankit.Ints. -/
set_option linter.unusedVariables false
set_option linter.unusedSimpArgs false
namespace Go.Proofs.Ytihljjfnjclefaa
open Go.ChangeShapes Go.WideShapes Go.ChangeAt Go.RowKit Go.MapKept

theorem RdV.icell {w : World} {A : Option Addr} {zs : List Int} (h : RdV w A (zs.map (.int .i64))) {j : Nat} (hj : j < zs.length) : ∃ b o, A = some ⟨b, o, none⟩ ∧ w.cell? ⟨b, o + j, none⟩ = some (.int .i64 zs[j]) := by
  obtain ⟨b, o, e, -, h2⟩ := RdV.form h (by simp; omega)
  have := h2 j (by simpa using hj)
  rw [List.getElem_map] at this
  exact ⟨b, o, e, this⟩
end Go.Proofs.Ytihljjfnjclefaa
/- Sectors of bytes, plain: a splice changes its own sector alone. -/
set_option linter.unusedVariables false
set_option linter.unusedSimpArgs false
namespace Go.Proofs.Ytihljjfnjclefaa
open Go.ChangeShapes Go.WideShapes Go.ChangeAt Go.RowKit Go.MapKept

theorem sec_get (b : List Byte) (k i : Nat) : (sec b k)[i]? = if i < 512 then b[512 * k + i]? else none := by
  unfold sec
  rw [List.getElem?_take, List.getElem?_drop]
theorem splice_get (b x : List Byte) (off i : Nat) (h : off + x.length ≤ b.length) : (splice b off x)[i]? = if i < off then b[i]? else if i < off + x.length then x[i - off]? else b[i]? := by
  unfold splice
  rw [List.getElem?_append]
  have hl : (b.take off).length = off := by rw [List.length_take]; omega
  rw [hl]
  by_cases h1 : i < off
  · rw [if_pos h1, if_pos h1, List.getElem?_take, if_pos h1]
  · rw [if_neg h1, if_neg h1, List.getElem?_append]
    by_cases h2 : i < off + x.length
    · rw [if_pos (show i - off < x.length by omega), if_pos h2]
    · rw [if_neg (show ¬ i - off < x.length by omega), if_neg h2, List.getElem?_drop]
      congr 1; omega
theorem sec_splice_other {b x : List Byte} {k k' n : Nat} (hb : b.length = 512 * n) (hk : k < n) (hx : x.length ≤ 512) (hne : k' ≠ k) : sec (splice b (512 * k) x) k' = sec b k' := by
  apply List.ext_getElem?
  intro i
  rw [sec_get, sec_get]
  by_cases hi : i < 512
  · rw [if_pos hi, if_pos hi, splice_get _ _ _ _ (by omega)]
    by_cases h1 : 512 * k' + i < 512 * k
    · rw [if_pos h1]
    · rw [if_neg h1, if_neg (by omega)]
  · rw [if_neg hi, if_neg hi]
theorem sec_splice_same {b x : List Byte} {k n : Nat} (hb : b.length = 512 * n) (hk : k < n) (hx : x.length ≤ 512) : sec (splice b (512 * k) x) k = x ++ (sec b k).drop x.length := by
  apply List.ext_getElem?
  intro i
  rw [sec_get, List.getElem?_append, List.getElem?_drop, sec_get]
  by_cases hi : i < 512
  · rw [if_pos hi, splice_get _ _ _ _ (by omega), if_neg (by omega)]
    by_cases h1 : i < x.length
    · rw [if_pos (by omega), if_pos h1]; congr 1; omega
    · rw [if_neg (by omega), if_neg h1, if_pos (by omega)]; congr 1; omega
  · rw [if_neg hi, if_neg (by omega), if_neg (by omega)]
theorem sec_replicate (n k : Nat) (v : Byte) (hk : k < n) : sec (List.replicate (512 * n) v) k = List.replicate 512 v := by
  apply List.ext_getElem?
  intro i
  rw [sec_get, List.getElem?_replicate, List.getElem?_replicate]
  by_cases hi : i < 512
  · rw [if_pos hi, if_pos hi, if_pos (by omega)]
  · rw [if_neg hi, if_neg hi]
theorem sdWrite_ok {D : DiskSt} {n : Nat} {k : Int} {xs : List Byte} (h0 : 0 ≤ k) (h1 : k < n) (hl : xs.length = 512) (hf : D.fuse = none) : sdWrite D n k xs = (0, ⟨D.b, cput D.M k xs, none⟩) := by
  unfold sdWrite
  rw [if_neg (by omega), hf]
  simp [ffail]
theorem sdRead_ok {D : DiskSt} {n : Nat} {k : Int} (h0 : 0 ≤ k) (h1 : k < n) (hf : D.fuse = none) : sdRead D n k = ((cget D.M k).getD (sec D.b k.toNat), 0, D) := by
  unfold sdRead
  rw [if_neg (by omega), hf]
  cases D
  simp only [ffail] at hf ⊢
  rw [hf]; simp
/-- A disk that lies in what was made since w0. -/
structure DW (w0 w : World) (F : List Nat) (g n : Nat) (D : DiskSt) : Prop where
  dsk : Dsk w F g n D
  fb : FB w0 w
  own : ∀ x ∈ F, w0.heap.size ≤ x
theorem DW.res {w0 w w' : World} {F : List Nat} {g n : Nat} {D D' : DiskSt} (h : DW w0 w F g n D) (k : DskRes w F g n D' w') : ∃ F', DW w0 w' F' g n D' ∧ TS F w w' ∧ ∀ x ∈ F', x ∈ F ∨ w.heap.size ≤ x := by
  obtain ⟨F', h1, h2, h3⟩ := k
  exact ⟨F', ⟨h2, h.fb.ts h3 h.own, fun x hx => (h1 x hx).elim (h.own x) (fun h' => Nat.le_trans h.fb.le h')⟩, h3, h1⟩
theorem DW.ts {w0 w w' : World} {F : List Nat} {g n : Nat} {D D' : DiskSt} (h : DW w0 w F g n D) (k : Dsk w' F g n D') (t : TS F w w') : DW w0 w' F g n D' := ⟨k, h.fb.ts t h.own, h.own⟩
theorem DW.fbn {w0 w w' : World} {F : List Nat} {g n : Nat} {D : DiskSt} (h : DW w0 w F g n D) (k : FB w w') : DW w0 w' F g n D := ⟨h.dsk.fb k, h.fb.trans k, h.own⟩
theorem DW.notin {w0 w : World} {F : List Nat} {g n : Nat} {D : DiskSt} (h : DW w0 w F g n D) {x : Nat} (hx : w.heap.size ≤ x) : x ∉ F := fun hm => by have := h.dsk.lt x hm; omega
end Go.Proofs.Ytihljjfnjclefaa
