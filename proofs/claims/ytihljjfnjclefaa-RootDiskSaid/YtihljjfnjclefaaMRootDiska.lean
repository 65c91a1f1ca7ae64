/- Walks and laws that the claim's last text stands on, several texts in one file: RtKc, CrsP, Rws, Rfd, Rfe, Rff. Under the hypotheses that each theorem states. -/
import Derived.Laws.CopyOwn
import Derived.Test.YtihljjfnjclefaaMRta
import Derived.Test.YtihljjfnjclefaaMRtb
import Derived.Test.YtihljjfnjclefaaMRtc
import Derived.Test.YtihljjfnjclefaaMRtd
import Derived.Test.YtihljjfnjclefaaMRte
import Derived.Test.YtihljjfnjclefaaMRtf
import Derived.Test.YtihljjfnjclefaaMRtg
import Derived.Test.YtihljjfnjclefaaMRth
import Derived.Test.YtihljjfnjclefaaMRti
import Derived.Test.YtihljjfnjclefaaMRtj
import Derived.Test.YtihljjfnjclefaaMRtk
import Derived.Test.YtihljjfnjclefaaMRtl
/- The walks through tallymankit.Crash and LightCrash (as KCr, beside the texts of roots). -/
set_option linter.unusedVariables false
set_option linter.unusedSimpArgs false
namespace Go.Proofs.Ytihljjfnjclefaa
open Go.ChangeShapes Go.WideShapes Go.ChangeAt Go.RowKit Go.MapKept

theorem info_bool : (Try.prog.info? 4).map (fun i => (i.zero, i.size, i.bytes)) = some (some (.bool false), 1, 1) := by kernel_rfl
theorem store_crash {W : World} {g : Nat} {a b c : Value} (x y z : Value) (h : W.heap[g]? = some (.cells #[a, b, c] 52 (0, 0))) (h1 : (#[x, y, z]).all (·.oneCell') = true) :
    (Instr.storeAt 52 (.pointer (some ⟨g, 0, none⟩)) (.agg #[x, y, z])).run Try.prog W = .ok () (W.setRow g #[x, y, z]) := by
  simp only [Instr.storeAt, Instr.sureAddr, Sem.run_bind, Sem.run_pure, Result.andThen]
  exact run_storeVar_row W g _ _ _ _ h (by kernel_rfl) rfl h1
set_option maxRecDepth 100000 in
set_option maxHeartbeats 1000000 in
theorem kit_Crash (KA : Option Addr) (ks : List Bool) (kc : Nat) (T Y : Int) (w : World) (hr : RdV w KA (ks.map .bool)) (hl : ks.length ≤ 1000000000) :
    Calls Try.prog 33 #[.agg #[.slice KA ks.length kc, .int .i64 T, .int .i64 Y]] w fun e w' => ∃ A c, e = .returned (.agg #[.slice A ks.length c, .int .i64 T, .int .i64 Y]) ∧ RdV w' A (ks.map .bool) ∧ FB w w' ∧ ∀ ad, A = some ad → w.heap.size ≤ ad.block := by
  have HR := Lib.hid hr
  have HL := Lib.hid hl
  clear hr hl
  go_enter Try.func33, Try.ntmps33
  go_wp2_with fail
  have HFa := Lib.hid (((FB.refl w).alloc (.cells #[.slice KA ks.length kc, .int .i64 T, .int .i64 Y] 52)).alloc (.cells #[.slice none 0 0, .int .i64 0, .int .i64 0] 52))
  have HBXa := Lib.hid (show ((w.alloc (.cells #[.slice KA ks.length kc, .int .i64 T, .int .i64 Y] 52)).alloc (.cells #[.slice none 0 0, .int .i64 0, .int .i64 0] 52)).heap[w.heap.size]? = some (.cells #[.slice KA ks.length kc, .int .i64 T, .int .i64 Y] 52 (0, 0)) from by
    rw [((FB.refl (w.alloc (.cells #[.slice KA ks.length kc, .int .i64 T, .int .i64 Y] 52))).alloc _).block _ (by simp)]; exact heap_alloc_new _ _)
  have HRWa := Lib.hid (show ((w.alloc (.cells #[.slice KA ks.length kc, .int .i64 T, .int .i64 Y] 52)).alloc (.cells #[.slice none 0 0, .int .i64 0, .int .i64 0] 52)).heap[w.heap.size + 1]? = some (.cells #[.slice none 0 0, .int .i64 0, .int .i64 0] 52 (0, 0)) from by
    have := heap_alloc_new (w.alloc (.cells #[.slice KA ks.length kc, .int .i64 T, .int .i64 Y] 52)) (.cells #[.slice none 0 0, .int .i64 0, .int .i64 0] 52)
    simpa using this)
  have HRa := Lib.hid (HFa.out.rdV HR.out)
  generalize (w.alloc (.cells #[.slice KA ks.length kc, .int .i64 T, .int .i64 Y] 52)).alloc (.cells #[.slice none 0 0, .int .i64 0, .int .i64 0] 52) = W0 at *
  refine region_schL (E := Below (W0.heap.size)) 9 ((1, true) :: (2, true) :: (4, true) :: (5, true) :: (6, true) :: (7, true) :: (0, false) :: (3, false) :: (8, false) :: []) (by kernel_rfl) (Below.refl _) (fun _ _ _ h k => Below.trans h k) (fun _ _ d _ _ h => by cases d <;> exact h) (by kernel_rfl) ?_
  intro ops hops0
  have hops := Lib.hid hops0
  clear hops0
  have HF : Below (W0.heap.size) W0 W0.drew := (Below.refl _ _).drew
  generalize W0.drew = wF at *
  repeat (refine sch_take (o := ?_) (v := ?_) (a' := ?_) (at_of hops.out ?_) ?_ (fun W hW => ?_) ?_ ?_; rotate_left 3; (focus (simp only [List.getElem?_toArray, List.getElem?_cons_zero, List.getElem?_cons_succ]; rfl)); (focus (rw [hops.out]; rfl)); (focus (obtain ⟨q0, q1, q2⟩ := row3 ((Below.block (HF.trans hW) _ (Array.getElem?_eq_some_iff.1 HBXa.out).1).trans HBXa.out); go_simp; with_reducible rfl)); (focus (simp only [Act.put, List.setIfInBounds_toArray, List.set_cons_zero, List.set_cons_succ]; rfl)))
  have hle : W0.heap.size ≤ wF.heap.size := Below.size HF
  have HLE := Lib.hid hle
  clear hle
  (refine sch_run (o := ?_) (v := ?_) (a' := ?_) (w' := ?_) (at_of hops.out ?_) ?_ ?_ ?_ ?_ ?_; rotate_left 4; (focus (simp only [List.getElem?_toArray, List.getElem?_cons_zero, List.getElem?_cons_succ]; rfl)); (focus (rw [hops.out]; rfl)); (focus (go_simp; constructor <;> with_reducible rfl)); (focus (exact (Below.refl _ _).alloc HLE.out _)); (focus (simp only [Act.put, List.setIfInBounds_toArray, List.set_cons_zero, List.set_cons_succ]; rfl)))
  (refine sch_append (o := ?_) (at_of hops.out ?_) ?_ (.tmp 3) (.tmp 5) 50 4 1 (.bool false) Try.underlying50 info_bool rfl ?_ wF.heap.size _ [] (OwnV.lit _ wF [] (by simp)) ?_ KA ks.length kc (ks.map .bool) (by rw [List.length_map]) ?_ ((RdV.below HRa.out (Below.mono HF (Nat.le_refl _))).alloc _) (fun u hu => by obtain ⟨b, -, rfl⟩ := List.mem_map.1 hu; rfl) (by have := HL.out; simp [maxLen]; omega) (by have := HL.out; simp; omega) (by simp) ?_; rotate_left 1; (focus (simp only [List.getElem?_toArray, List.getElem?_cons_zero, List.getElem?_cons_succ]; rfl)); (focus (rw [hops.out]; rfl)); (focus rfl); (focus rfl); (focus rfl))
  intro v' w' ho hg _
  have hE : Below W0.heap.size (wF.alloc (.cells #[] 4)) w' := (Below.refl _ _).grown hg (by have := HLE.out; simp; omega) (fun k hk => by cases hk; exact HLE.out)
  obtain ⟨A', c', rfl, h1, h2, h3, h4⟩ := OwnV.form ho
  rw [List.nil_append] at h3
  have HE := Lib.hid hE
  have HR3 := Lib.hid h3
  have HA4 := Lib.hid (fun ad (ha : A' = some ad) => show w.heap.size + 1 < ad.block from by have h5 := (Array.getElem?_eq_some_iff.1 HRWa.out).1; have h6 := (h4 ad ha).1; have h7 := HLE.out; omega)
  have HA3 := Lib.hid (fun ad (ha : A' = some ad) => Nat.le_trans (HFa.out.le) (Nat.le_trans HLE.out (h4 ad ha).1))
  clear ho hg hE h1 h2 h3 h4
  refine ⟨HE.out, ?_⟩
  intro a' ha'
  simp only [Act.put, List.setIfInBounds_toArray, List.set_cons_zero, List.set_cons_succ] at ha'
  subst ha'
  simp only [List.nil_append, List.length_map]
  (refine sch_run (o := ?_) (v := ?_) (a' := ?_) (w' := ?_) (at_of hops.out ?_) ?_ ?_ ?_ ?_ ?_; rotate_left 4; (focus (simp only [List.getElem?_toArray, List.getElem?_cons_zero, List.getElem?_cons_succ]; rfl)); (focus (rw [hops.out]; rfl)); (focus (go_simp; constructor <;> with_reducible rfl)); (focus (exact Below.refl _ _)); (focus (simp only [Act.put, List.setIfInBounds_toArray, List.set_cons_zero, List.set_cons_succ]; rfl)))
  have HRWc := Lib.hid (show w'.heap[w.heap.size + 1]? = some (.cells #[.slice none 0 0, .int .i64 0, .int .i64 0] 52 (0, 0)) from by
    have hlt := (Array.getElem?_eq_some_iff.1 HRWa.out).1
    rw [Below.block (Below.trans (Below.alloc HF HLE.out _) HE.out) _ hlt]; exact HRWa.out)
  have hst := store_crash (.slice A' ks.length c') (.int .i64 T) (.int .i64 Y) HRWc.out (by simp [Value.oneCell'])
  (refine schL_store (o := ?_) (at_of hops.out ?_) ?_ 52 (.tmp 2) (.tmp 11) ?_ _ _ ?_ ?_ hst ?_; rotate_left 1; (focus (simp only [List.getElem?_toArray, List.getElem?_cons_zero, List.getElem?_cons_succ]; rfl)); (focus (rw [hops.out]; rfl)); (focus rfl); (focus rfl); (focus rfl))
  have HROW := Lib.hid (setRow_heap w' (w.heap.size + 1) _ #[.slice A' ks.length c', .int .i64 T, .int .i64 Y] _ _ HRWc.out)
  have HEND := Lib.hid (FB.setRow (HFa.out.trans (Below.trans (Below.alloc HF HLE.out (.cells #[] 4)) HE.out)) (g := w.heap.size + 1) (Nat.le_succ _) #[.slice A' ks.length c', .int .i64 T, .int .i64 Y])
  have HR4 := Lib.hid (show RdV (w'.setRow (w.heap.size + 1) #[.slice A' ks.length c', .int .i64 T, .int .i64 Y]) A' (ks.map .bool) from
    (TS.tb (F := [w.heap.size + 1]) (TB.setRow _ w' _) (by simp)) |> fun ht => RdV.move HR3.out fun a v e hc => ht.cell hc (by
      cases A' with
      | none => cases e
      | some ad =>
        have h1 := HA4.out ad rfl
        simp at e
        rw [← e]
        simp only [List.mem_singleton]
        omega))
  clear hst hops HF
  have hsz : (Try.prog.info? 52).map (·.size) = some (#[Value.slice A' ks.length c', .int .i64 T, .int .i64 Y] : Array Value).size := by kernel_rfl
  have HZ := Lib.hid hsz
  clear hsz
  go_wp2
  exact bodyPost_ret (v := .agg #[.slice A' ks.length c', .int .i64 T, .int .i64 Y]) (results_cell_row Try.results33 _ _ (w.heap.size + 1) 52 _ (0, 0) _ rfl HROW.out Try.underlying52 rfl HZ.out) rfl ⟨A', c', rfl, HR4.out, HEND.out, HA3.out⟩
set_option maxRecDepth 100000 in
theorem kit_LightCrash (KA : Option Addr) (kl kc : Nat) (torn bytes m : Int) (w : World) : Calls Try.prog 26 #[.agg #[.slice KA kl kc, .int .i64 torn, .int .i64 bytes], .int .i64 m] w fun e w' => e = .returned (.bool (decide ((kl : Int) ≤ m))) ∧ FB w w' := by
  have HF := Lib.hid ((FB.refl w).alloc (.cells #[.slice KA kl kc, .int .i64 torn, .int .i64 bytes] 52))
  generalize hC : decide ((kl : Int) ≤ m) = C
  go_enter Try.func26, Try.ntmps26
  go_wp2
  go_ret
  exact ⟨rfl, HF.out⟩
end Go.Proofs.Ytihljjfnjclefaa
/- Sectors, plain: what was flushed, what was written last, and what a crash leaves of them. -/
set_option linter.unusedVariables false
set_option linter.unusedSimpArgs false
namespace Go.Proofs.Ytihljjfnjclefaa
open Go.ChangeShapes Go.WideShapes Go.ChangeAt Go.RowKit Go.MapKept

theorem cget_cput (M : List (Int × List Byte)) (k k' : Int) (x : List Byte) : cget (cput M k x) k' = if k' = k then some x else cget M k' := by
  induction M with
  | nil =>
    rw [cput, cget, cget]
    by_cases h : k = k'
    · rw [if_pos h, if_pos h.symm]
    · rw [if_neg h, if_neg (fun e => h e.symm)]; rfl
  | cons p M ih =>
    obtain ⟨pk, pv⟩ := p
    rw [cput]
    by_cases h : pk = k
    · rw [if_pos h, cget, cget]
      by_cases h2 : k = k'
      · rw [if_pos h2, if_pos h2.symm]
      · rw [if_neg h2, if_neg (fun e => h2 e.symm), if_neg (by rw [h]; exact h2)]
    · rw [if_neg h, cget, cget]
      by_cases h2 : pk = k'
      · rw [if_pos h2, if_neg (by rw [← h2]; exact h), if_pos h2]
      · rw [if_neg h2, ih, if_neg h2]
/-- fl: as at the last flush; la: as written last. -/
structure Lists (D : DiskSt) (n : Nat) (fl la : List (List Byte)) : Prop where
  nf : fl.length = n
  nl : la.length = n
  f : ∀ k, k < n → fl[k]? = some (sec D.b k)
  l : ∀ k, k < n → la[k]? = some ((cget D.M (k : Int)).getD (sec D.b k))
theorem Lists.start (n : Nat) : Lists ⟨List.replicate (512 * n) 0#8, [], none⟩ n (List.replicate n (List.replicate 512 0#8)) (List.replicate n (List.replicate 512 0#8)) :=
  ⟨List.length_replicate, List.length_replicate, fun k hk => by rw [sec_replicate n k _ hk, List.getElem?_replicate, if_pos hk], fun k hk => by rw [sec_replicate n k _ hk, List.getElem?_replicate, if_pos hk]; rfl⟩
theorem Lists.write {D : DiskSt} {n : Nat} {fl la : List (List Byte)} (h : Lists D n fl la) (k : Nat) (hk : k < n) (x : List Byte) : Lists ⟨D.b, cput D.M (k : Int) x, none⟩ n fl (la.set k x) :=
  ⟨h.nf, by rw [List.length_set]; exact h.nl, h.f, fun j hj => by
    rw [cget_cput, List.getElem?_set]
    by_cases e : k = j
    · subst e; rw [if_pos rfl, if_pos rfl, if_pos (by rw [h.nl]; exact hk)]; rfl
    · rw [if_neg e, if_neg (by omega)]; exact h.l j hj⟩
theorem Lists.flush {D : DiskSt} {n : Nat} {fl la : List (List Byte)} (h : Lists D n fl la) (hok : D.ok n) (hn : (D.M.map (·.1)).Nodup) : Lists ⟨flushB D.M D.b, [], none⟩ n la la :=
  ⟨h.nl, h.nl, fun k hk => by rw [sec_flushB hok.len hk hok.M hn]; exact h.l k hk, fun k hk => by
    simp only [cget, Option.getD_none]
    rw [sec_flushB hok.len hk hok.M hn]; exact h.l k hk⟩
theorem Lists.read {D : DiskSt} {n : Nat} {fl la : List (List Byte)} (h : Lists D n fl la) (k : Nat) (hk : k < n) : (cget D.M (k : Int)).getD (sec D.b ((k : Int).toNat)) = la[k]'(by rw [h.nl]; exact hk) := by
  have := h.l k hk
  rw [List.getElem?_eq_getElem (by rw [h.nl]; exact hk)] at this
  simp only [Option.some.injEq] at this
  rw [Int.toNat_natCast]; exact this.symm
theorem Lists.len {D : DiskSt} {n : Nat} {fl la : List (List Byte)} (h : Lists D n fl la) (hok : D.ok n) (k : Nat) (hk : k < n) : (fl[k]'(by rw [h.nf]; exact hk)).length = 512 ∧ (la[k]'(by rw [h.nl]; exact hk)).length = 512 := by
  have e1 := h.f k hk
  have e2 := h.l k hk
  rw [List.getElem?_eq_getElem (by rw [h.nf]; exact hk)] at e1
  rw [List.getElem?_eq_getElem (by rw [h.nl]; exact hk)] at e2
  simp only [Option.some.injEq] at e1 e2
  rw [e1, e2]
  refine ⟨sec_len hok.len hk, ?_⟩
  cases hg : cget D.M (k : Int) with
  | none => exact sec_len hok.len hk
  | some x =>
    obtain ⟨i, hi, hx⟩ := cget_some_at hg
    exact (hok.M _ (List.mem_of_getElem? hx)).2.2
/-- The sector that is torn. -/
def tornAt (M : List (Int × List Byte)) (T : Int) : Option Int := if 0 ≤ T then (M[T.toNat]?).map (·.1) else none
/-- How many bytes of a torn sector are the latest. -/
def cutAt (Y : Int) : Nat := (min (max 0 Y) 512).toNat
theorem cutAt_le (Y : Int) : cutAt Y ≤ 512 := by unfold cutAt; omega
/-- What a crash leaves of a sector. -/
theorem Lists.crash {D : DiskSt} {n : Nat} {fl la : List (List Byte)} (h : Lists D n fl la) (hok : D.ok n) (hn : (D.M.map (·.1)).Nodup) (keep : List Bool) (T Y : Int) (k : Nat) (hk : k < n) :
    sec (crashB (keptLen keep T Y) D.M D.b D.M.length) k = fl[k]'(by rw [h.nf]; exact hk) ∨ sec (crashB (keptLen keep T Y) D.M D.b D.M.length) k = la[k]'(by rw [h.nl]; exact hk) ∨
    (tornAt D.M T = some (k : Int) ∧ (sec (crashB (keptLen keep T Y) D.M D.b D.M.length) k).take (cutAt Y) = (la[k]'(by rw [h.nl]; exact hk)).take (cutAt Y) ∧ (sec (crashB (keptLen keep T Y) D.M D.b D.M.length) k).drop (cutAt Y) = (fl[k]'(by rw [h.nf]; exact hk)).drop (cutAt Y)) := by
  have hf : ∀ i, keptLen keep T Y i ≤ 512 := fun i => by
    unfold keptLen
    split
    · omega
    · split <;> omega
  have hc := sec_crashB (f := keptLen keep T Y) (k := k) hok.len hok.M hn hf D.M.length
  have e1 := h.f k hk
  have e2 := h.l k hk
  rw [List.getElem?_eq_getElem (by rw [h.nf]; exact hk)] at e1
  rw [List.getElem?_eq_getElem (by rw [h.nl]; exact hk)] at e2
  simp only [Option.some.injEq] at e1 e2
  rw [e1, e2]
  cases hg : cget D.M (k : Int) with
  | none => exact .inl (hc.2 fun i p _ hp => cget_none_at hg i p hp)
  | some x =>
    obtain ⟨i, hi, hx⟩ := cget_some_at hg
    have hxl := (hok.M _ (List.mem_of_getElem? hx)).2.2
    simp only at hxl
    have hsl := sec_len hok.len hk
    rw [hc.1 i x hi hx, Option.getD_some]
    have hkl : keptLen keep T Y i = 0 ∨ keptLen keep T Y i = 512 ∨ ((i : Int) = T ∧ keptLen keep T Y i = cutAt Y) := by
      unfold keptLen
      by_cases ht : (i : Int) = T ∧ 0 ≤ Y ∧ Y ≤ 512
      · rw [if_pos ht]
        refine .inr (.inr ⟨ht.1, ?_⟩)
        unfold cutAt
        omega
      · rw [if_neg ht]
        split
        · exact .inr (.inl rfl)
        · exact .inl rfl
    rcases hkl with e | e | ⟨e0, e⟩
    · rw [e]; left; simp
    · rw [e]; right; left; rw [List.take_of_length_le (by omega), List.drop_of_length_le (by omega), List.append_nil]
    · rw [e]
      right; right
      have hcl := cutAt_le Y
      refine ⟨?_, ?_, ?_⟩
      · unfold tornAt
        rw [if_pos (by omega), ← e0, Int.toNat_natCast, hx]; rfl
      · rw [List.take_append_of_le_length (by rw [List.length_take]; omega), List.take_take, Nat.min_self]
      · rw [List.drop_append, List.length_take, show cutAt Y - min (cutAt Y) x.length = 0 by omega, List.drop_zero, List.drop_of_length_le (by rw [List.length_take]; omega), List.nil_append]
/-- At most one sector is torn. -/
def TornN (M : List (Int × List Byte)) (T : Int) (j c : Nat) : Prop := c = 0 ∨ (c = 1 ∧ ∃ i : Nat, i < j ∧ tornAt M T = some (i : Int))
theorem TornN.le {M : List (Int × List Byte)} {T : Int} {j c : Nat} (h : TornN M T j c) : c ≤ 1 := by
  rcases h with rfl | ⟨rfl, -⟩ <;> omega
theorem TornN.same {M : List (Int × List Byte)} {T : Int} {j c : Nat} (h : TornN M T j c) : TornN M T (j + 1) c := by
  rcases h with rfl | ⟨rfl, i, hi, h⟩
  · exact .inl rfl
  · exact .inr ⟨rfl, i, by omega, h⟩
theorem TornN.more {M : List (Int × List Byte)} {T : Int} {j c : Nat} (h : TornN M T j c) (ht : tornAt M T = some (j : Int)) : TornN M T (j + 1) (c + 1) := by
  rcases h with rfl | ⟨rfl, i, hi, h⟩
  · exact .inr ⟨rfl, j, by omega, ht⟩
  · rw [ht] at h; simp only [Option.some.injEq] at h; omega
end Go.Proofs.Ytihljjfnjclefaa
/- Lists of bytes in memory ([][]byte) that the call made: a block of slices, whose bytes lie outside some blocks. -/
set_option linter.unusedVariables false
set_option linter.unusedSimpArgs false
namespace Go.Proofs.Ytihljjfnjclefaa
open Go.ChangeShapes Go.WideShapes Go.ChangeAt Go.RowKit Go.MapKept

theorem info_bs : (Try.prog.info? 22).map (fun i => (i.zero, i.size, i.bytes)) = some (some (.slice none 0 0), 1, 24) := by kernel_rfl
/-- Block g holds slices that read as ls; their bytes lie outside X. -/
def RowsAt (w : World) (X : List Nat) (g : Nat) (ls : List (List Byte)) : Prop :=
  ∃ cs : Array Value, w.heap[g]? = some (.cells cs 22 (0, 0)) ∧ cs.size = ls.length ∧ g ∈ X ∧
    ∀ i (h : i < ls.length), ∃ A c, cs[i]? = some (.slice A ls[i].length c) ∧ ls[i].length ≤ c ∧ c ≤ maxLen ∧ Rd w A ls[i] ∧ ∀ ad, A = some ad → ad.block ∉ X ∧ ad.block < w.heap.size
section
variable {w w' : World} {X X' F : List Nat} {g : Nat} {ls : List (List Byte)}
theorem RowsAt.lt (h : RowsAt w X g ls) : g < w.heap.size := by
  obtain ⟨cs, h1, -⟩ := h
  exact (Array.getElem?_eq_some_iff.1 h1).1
theorem RowsAt.ts (h : RowsAt w X g ls) (k : TS F w w') (hg : g ∉ F) (hF : ∀ x ∈ F, x ∈ X) : RowsAt w' X g ls := by
  obtain ⟨cs, h1, h2, h3, h4⟩ := h
  refine ⟨cs, (k.block g (Array.getElem?_eq_some_iff.1 h1).1 hg).trans h1, h2, h3, fun i hi => ?_⟩
  obtain ⟨A, c, e1, e2, e3, e4, e5⟩ := h4 i hi
  exact ⟨A, c, e1, e2, e3, k.rd e4 (fun ad ha hf => (e5 ad ha).1 (hF _ hf)), fun ad ha => ⟨(e5 ad ha).1, Nat.lt_of_lt_of_le (e5 ad ha).2 k.size⟩⟩
theorem RowsAt.fb (h : RowsAt w X g ls) (k : FB w w') : RowsAt w' X g ls := h.ts (TS.of (F := []) k) (by simp) (by simp)
theorem RowsAt.widen (h : RowsAt w X g ls) (hX : ∀ x ∈ X', x ∈ X ∨ w.heap.size ≤ x) (hg : g ∈ X') : RowsAt w X' g ls := by
  obtain ⟨cs, h1, h2, h3, h4⟩ := h
  refine ⟨cs, h1, h2, hg, fun i hi => ?_⟩
  obtain ⟨A, c, e1, e2, e3, e4, e5⟩ := h4 i hi
  refine ⟨A, c, e1, e2, e3, e4, fun ad ha => ⟨fun hm => ?_, (e5 ad ha).2⟩⟩
  rcases hX _ hm with hm | hm
  · exact (e5 ad ha).1 hm
  · have := (e5 ad ha).2; omega
theorem RowsAt.get (h : RowsAt w X g ls) (i : Nat) (hi : i < ls.length) : ∃ A c, w.cell? ⟨g, i, none⟩ = some (.slice A ls[i].length c) ∧ ls[i].length ≤ c ∧ c ≤ maxLen ∧ Rd w A ls[i] ∧ w.frozen? ⟨g, i, none⟩ = false ∧ ∀ ad, A = some ad → ad.block ∉ X := by
  obtain ⟨cs, h1, h2, h3, h4⟩ := h
  obtain ⟨A, c, e1, e2, e3, e4, e5⟩ := h4 i hi
  exact ⟨A, c, by rw [cell_of_row _ _ _ _ _ _ h1]; exact e1, e2, e3, e4, frozen_row _ h1 i, fun ad ha => (e5 ad ha).1⟩
/-- A row laid at a place. -/
theorem RowsAt.set (h : RowsAt w X g ls) (i : Nat) (hi : i < ls.length) {A : Option Addr} {c : Nat} {xs : List Byte} (hr : Rd w A xs) (h1 : xs.length ≤ c) (h2 : c ≤ maxLen) (hA : ∀ ad, A = some ad → ad.block ∉ X ∧ ad.block < w.heap.size) :
    RowsAt (w.setCell ⟨g, i, none⟩ (.slice A xs.length c)) X g (ls.set i xs) ∧ TB g w (w.setCell ⟨g, i, none⟩ (.slice A xs.length c)) := by
  obtain ⟨cs, k1, k2, k3, k4⟩ := h
  have htb : TB g w (w.setCell ⟨g, i, none⟩ (.slice A xs.length c)) := TB.set w i _
  have hts : TS [g] w (w.setCell ⟨g, i, none⟩ (.slice A xs.length c)) := TS.tb htb (by simp)
  refine ⟨⟨cs.setIfInBounds i (.slice A xs.length c), ?_, by simp [k2], k3, fun j hj => ?_⟩, htb⟩
  · rw [heap_setCell_same _ _ _ _ _ _ k1]
  · rw [List.length_set] at hj
    by_cases e : i = j
    · subst e
      refine ⟨A, c, ?_, by simpa using h1, h2, ?_, fun ad ha => ⟨(hA ad ha).1, by simpa using (hA ad ha).2⟩⟩
      · simp [k2, hi]
      · simp only [List.getElem_set_self]
        exact hts.rd hr (fun ad ha hm => (hA ad ha).1 (by simp at hm; rw [hm]; exact k3))
    · obtain ⟨A', c', e1, e2, e3, e4, e5⟩ := k4 j hj
      simp only [List.getElem_set_ne e]
      refine ⟨A', c', ?_, e2, e3, hts.rd e4 (fun ad ha hm => (e5 ad ha).1 (by simp at hm; rw [hm]; exact k3)), fun ad ha => ⟨(e5 ad ha).1, by simpa using (e5 ad ha).2⟩⟩
      rw [Array.getElem?_setIfInBounds_ne e]; exact e1
/-- All rows copied onto as many. -/
theorem RowsAt.copy {gs : Nat} {us : List (List Byte)} (h : RowsAt w X g ls) (hs : RowsAt w X gs us) (hl : ls.length = us.length) (n : Nat) (hn : n = us.length) (ca cb : Nat) :
    ∃ w', (∀ ty, (Builtin.copy_ #[44, 44] ty #[.slice (some ⟨g, 0, none⟩) n ca, .slice (some ⟨gs, 0, none⟩) n cb]).run Try.prog w = .ok (goInt n) w') ∧ RowsAt w' X g us ∧ TB g w w' := by
  subst hn
  obtain ⟨cs, k1, k2, k3, k4⟩ := h
  obtain ⟨ds, q1, q2, q3, q4⟩ := hs
  obtain ⟨i, hi, _, hsz, _⟩ := info_parts info_bs
  have hsz1 : (Try.prog.info? 22).map (·.size) = some 1 := by rw [hi]; simp [hsz]
  have hone : ∀ v ∈ ds.toList, v.oneCell' = true := fun v hv => by
    obtain ⟨j, hj⟩ := List.getElem?_of_mem hv
    have hjl := (List.getElem?_eq_some_iff.1 hj).1
    obtain ⟨A, c, e1, -⟩ := q4 j (by simp at hjl; omega)
    rw [Array.getElem?_toList, e1] at hj
    cases hj; rfl
  have hrun := fun ty => run_copy_row (P := Try.prog) w 44 44 ty 22 g 0 us.length ca ⟨gs, 0, none⟩ us.length cb cs 22 ds.toList Try.underlying44 hsz1 k1 (by simp [q2]) (fun j v hj => by
    rw [show (⟨gs, 0, none⟩ : Addr).add j = ⟨gs, j, none⟩ from by unfold Addr.add; split <;> simp_all, cell_of_row _ _ _ _ _ _ q1]
    simpa using hj) (by simp; omega) hone
  rw [show ds.toList.length = us.length from by simp [q2]] at hrun
  refine ⟨_, hrun, ?_, TB.row _ _ _⟩
  have hts := TS.tb (F := [g]) (TB.row g w (cs.toList.take 0 ++ ds.toList ++ cs.toList.drop (0 + us.length)).toArray) (by simp)
  have hrow := setRow_heap w g cs (cs.toList.take 0 ++ ds.toList ++ cs.toList.drop (0 + us.length)).toArray _ _ k1
  have hsame : (cs.toList.take 0 ++ ds.toList ++ cs.toList.drop (0 + us.length)).toArray = ds := by
    rw [List.take_zero, List.nil_append, List.drop_of_length_le (by simp; omega), List.append_nil]
  rw [hsame] at hrow hts ⊢
  refine ⟨ds, hrow, q2, k3, fun j hj => ?_⟩
  obtain ⟨A, c, e1, e2, e3, e4, e5⟩ := q4 j hj
  exact ⟨A, c, e1, e2, e3, hts.rd e4 (fun ad ha hm => (e5 ad ha).1 (by simp at hm; rw [hm]; exact k3)), fun ad ha => ⟨(e5 ad ha).1, Nat.lt_of_lt_of_le (e5 ad ha).2 hts.size⟩⟩
end
/-- make([][]byte, n). -/
theorem mk_rows (n : Nat) (hn : n ≤ 100000000) : ∃ C : Array Value,
    (∀ W : World, (Instr.makeSlice 44 (.int .i64 (n : Int)) (.int .i64 (n : Int))).run Try.prog W = .ok (.slice (some ⟨W.heap.size, 0, none⟩) n n) (W.alloc (.cells C 22))) ∧
    C = (List.replicate n (Value.slice none 0 0)).toArray := by
  obtain ⟨i, hi, hz, hsz, hb⟩ := info_parts info_bs
  refine ⟨madeCells #[.slice none 0 0] n, fun W => ?_, ?_⟩
  · have h := run_make (P := Try.prog) W 44 22 i _ Try.underlying44 hi hz .i64 .i64 (n : Int) (n : Int) (by omega) (Int.le_refl _) (by rw [hb]; omega) (by omega)
    rw [hsz] at h
    simpa [Value.cells] using h
  · rw [← toList_madeCells_one]
theorem RowsAt.mk {w : World} {X : List Nat} {n : Nat} {C : Array Value} (hC : C = (List.replicate n (Value.slice none 0 0)).toArray) (hg : w.heap.size ∈ X) : RowsAt (w.alloc (.cells C 22)) X w.heap.size (List.replicate n []) := by
  subst hC
  refine ⟨_, heap_alloc_new _ _, by simp, hg, fun i hi => ⟨none, 0, ?_, by simp, by simp [maxLen], ?_, fun ad ha => by cases ha⟩⟩
  · rw [List.length_replicate] at hi
    simp [hi]
  · simp only [List.getElem_replicate]; exact Rd.nil _ _
end Go.Proofs.Ytihljjfnjclefaa
/- The reference's disk: its blocks; the walks through New, Sectors, fails, find. -/
set_option linter.unusedVariables false
set_option linter.unusedSimpArgs false
namespace Go.Proofs.Ytihljjfnjclefaa
open Go.ChangeShapes Go.WideShapes Go.ChangeAt Go.RowKit Go.MapKept

/-- The fuse as a number. -/
def fzi : Option Int → Int
  | none => -1
  | some z => z
def rctl (g gb : Nat) (NA CA : Option Addr) : List Nat := [g, gb] ++ (optBlk NA ++ optBlk CA)
structure RD (w : World) (F : List Nat) (g n gb c : Nat) (NA : Option Addr) (nc : Nat) (CA : Option Addr) (cc : Nat) (V : List (Int × Value)) (D : DiskSt) : Prop where
  row : w.heap[g]? = some (.cells #[.slice (some ⟨gb, 0, none⟩) (512 * n) c, .slice NA D.M.length nc, .slice CA D.M.length cc, .int .i64 (fzi D.fuse)] 93 (0, 0))
  bytes : Own w 0 (.slice (some ⟨gb, 0, none⟩) (512 * n) c) D.b
  keys : OwnV 3 w 0 (.slice NA D.M.length nc) (D.M.map fun p => .int .i64 p.1)
  rows : OwnV 22 w 0 (.slice CA D.M.length cc) (V.map (·.2))
  vals : Vals w F (rctl g gb NA CA) V D.M
  nodup : (rctl g gb NA CA).Nodup
  mem : ∀ x ∈ rctl g gb NA CA, x ∈ F
  lt : ∀ x ∈ F, x < w.heap.size
  ok : D.ok n
  nd : (D.M.map (·.1)).Nodup
def RDsk (w : World) (F : List Nat) (g n : Nat) (D : DiskSt) : Prop := ∃ (gb c : Nat) (NA : Option Addr) (nc : Nat) (CA : Option Addr) (cc : Nat) (V : List (Int × Value)), RD w F g n gb c NA nc CA cc V D
def RRes (w : World) (F : List Nat) (g n : Nat) (D : DiskSt) (w' : World) : Prop := ∃ F', (∀ x ∈ F', x ∈ F ∨ w.heap.size ≤ x) ∧ RDsk w' F' g n D ∧ TS F w w'
section
variable {w w' : World} {F F' : List Nat} {g n gb c : Nat} {NA : Option Addr} {nc : Nat} {CA : Option Addr} {cc : Nat} {V : List (Int × Value)} {D : DiskSt}
theorem own_out {A : Option Addr} {n c k : Nat} (h : (Value.slice A n c).ownBlock = some k) : k ∈ optBlk A := by
  cases A with
  | none => cases h
  | some ad => cases h; simp [optBlk]
theorem RD.ts (h : RD w F g n gb c NA nc CA cc V D) (k : TS F' w w') (hd : ∀ x ∈ F', x ∉ F) : RD w' F g n gb c NA nc CA cc V D := by
  have hn : ∀ x ∈ rctl g gb NA CA, x ∉ F' := fun x hx hf => hd x hf (h.mem x hx)
  refine ⟨?_, ?_, ?_, ?_, ?_, h.nodup, h.mem, fun x hx => Nat.lt_of_lt_of_le (h.lt x hx) k.size, h.ok, h.nd⟩
  · rw [k.block g (Array.getElem?_eq_some_iff.1 h.row).1 (hn g (by simp [rctl]))]; exact h.row
  · exact k.ownV h.bytes (fun b hb => by cases hb; exact hn gb (by simp [rctl]))
  · exact k.ownV h.keys (fun b hb => hn b (by simp [rctl, own_out hb]))
  · exact k.ownV h.rows (fun b hb => hn b (by simp [rctl, own_out hb]))
  · exact h.vals.move (fun A x hr hb => k.rd hr (fun ad ha hf => hd _ hf (hb ad ha).1)) (fun b h h' => ⟨h, h'⟩)
theorem RDsk.ts (h : RDsk w F g n D) (k : TS F' w w') (hd : ∀ x ∈ F', x ∉ F) : RDsk w' F g n D := by
  obtain ⟨gb, c, NA, nc, CA, cc, V, h⟩ := h
  exact ⟨gb, c, NA, nc, CA, cc, V, h.ts k hd⟩
theorem RDsk.fb (h : RDsk w F g n D) (k : FB w w') : RDsk w' F g n D := h.ts (F' := []) (TS.of k) (by simp)
theorem RD.fb (h : RD w F g n gb c NA nc CA cc V D) (k : FB w w') : RD w' F g n gb c NA nc CA cc V D := h.ts (F' := []) (TS.of k) (by simp)
theorem RDsk.lt (h : RDsk w F g n D) : ∀ x ∈ F, x < w.heap.size := by obtain ⟨gb, c, NA, nc, CA, cc, V, h⟩ := h; exact h.lt
theorem RDsk.mem (h : RDsk w F g n D) : g ∈ F := by obtain ⟨gb, c, NA, nc, CA, cc, V, h⟩ := h; exact h.mem g (by simp [rctl])
theorem RDsk.ok (h : RDsk w F g n D) : D.ok n := by obtain ⟨gb, c, NA, nc, CA, cc, V, h⟩ := h; exact h.ok
theorem RDsk.nd (h : RDsk w F g n D) : (D.M.map (·.1)).Nodup := by obtain ⟨gb, c, NA, nc, CA, cc, V, h⟩ := h; exact h.nd
theorem RD.mlen (h : RD w F g n gb c NA nc CA cc V D) : D.M.length ≤ n := by
  have := keys_len n (D.M.map (·.1)) h.nd (fun x hx => by
    obtain ⟨p, hp, rfl⟩ := List.mem_map.1 hx
    have := h.ok.M p hp
    exact ⟨this.1, this.2.1⟩)
  rwa [List.length_map] at this
theorem RDsk.mlen (h : RDsk w F g n D) : D.M.length ≤ n := by obtain ⟨gb, c, NA, nc, CA, cc, V, h⟩ := h; exact h.mlen
theorem fzi_ge (h : D.ok n) : -1 ≤ fzi D.fuse ∧ fzi D.fuse ≤ 9223372036854775807 := by
  cases hf : D.fuse with
  | none => simp [fzi]
  | some z => have := h.f z hf; simp [fzi]; omega
/-- The fuse written. -/
theorem RD.refuse (h : RD w F g n gb c NA nc CA cc V D) (f : Option Int) (hf : ∀ z, f = some z → 0 ≤ z ∧ z ≤ 9223372036854775807) (z : Int) (hz : z = fzi f) :
    RD (w.setCell ⟨g, 3, none⟩ (.int .i64 z)) F g n gb c NA nc CA cc V { D with fuse := f } ∧ TS F w (w.setCell ⟨g, 3, none⟩ (.int .i64 z)) := by
  subst hz
  have htb : TB g w (w.setCell ⟨g, 3, none⟩ (.int .i64 (fzi f))) := TB.set w 3 _
  have hts : TS [g] w (w.setCell ⟨g, 3, none⟩ (.int .i64 (fzi f))) := TS.tb htb (by simp)
  have hnd := h.nodup
  have hne : ∀ x ∈ [gb] ++ (optBlk NA ++ optBlk CA), x ∉ [g] := by
    intro x hx hl
    simp only [List.mem_singleton] at hl
    subst hl
    simp only [rctl, List.cons_append, List.nil_append, List.nodup_cons] at hnd
    exact hnd.1 (by simpa using hx)
  refine ⟨⟨?_, ?_, ?_, ?_, ?_, h.nodup, h.mem, fun x hx => by simpa using h.lt x hx, ⟨h.ok.len, h.ok.n1, h.ok.n2, h.ok.M, hf⟩, h.nd⟩, TS.tb htb (h.mem g (by simp [rctl]))⟩
  · rw [heap_setCell_same _ _ _ _ _ _ h.row]; rfl
  · exact hts.ownV h.bytes (fun b hb => by cases hb; exact hne gb (by simp))
  · exact hts.ownV h.keys (fun b hb => hne b (by simp [own_out hb]))
  · exact hts.ownV h.rows (fun b hb => hne b (by simp [own_out hb]))
  · exact h.vals.move (fun A x hr hb => hts.rd hr (fun ad ha hf => (hb ad ha).2 (by simp at hf; simp [rctl, hf]))) (fun b h h' => ⟨h, h'⟩)
end
/-- A sector's place in the cache. -/
def cfi : List (Int × List Byte) → Int → Option Nat
  | [], _ => none
  | (k', _) :: M, k => if k' = k then some 0 else (cfi M k).map (· + 1)
def cfiZ (M : List (Int × List Byte)) (k : Int) : Int := match cfi M k with | none => -1 | some i => (i : Int)
theorem cfi_spec : ∀ (M : List (Int × List Byte)) (k : Int), (cfi M k = none ∧ cget M k = none ∧ (∀ x, cput M k x = M ++ [(k, x)]) ∧ ∀ (j : Nat) p, M[j]? = some p → p.1 ≠ k) ∨
    (∃ i x, cfi M k = some i ∧ i < M.length ∧ M[i]? = some (k, x) ∧ cget M k = some x ∧ (∀ y, cput M k y = M.set i (k, y)) ∧ ∀ (j : Nat) p, j < i → M[j]? = some p → p.1 ≠ k)
  | [], k => .inl ⟨rfl, rfl, fun _ => rfl, fun j p h => by simp at h⟩
  | (pk, pv) :: M, k => by
    by_cases h : pk = k
    · subst h
      refine .inr ⟨0, pv, by simp [cfi], by simp, rfl, by simp [cget], fun y => by simp [cput], fun j p hj => absurd hj (by omega)⟩
    · rcases cfi_spec M k with ⟨h1, h2, h3, h4⟩ | ⟨i, x, h1, h2, h3, h4, h5, h6⟩
      · refine .inl ⟨by simp [cfi, h, h1], by simp [cget, h, h2], fun x => by simp [cput, h, h3], fun j p hp => ?_⟩
        cases j with
        | zero => simp at hp; subst hp; exact h
        | succ j => exact h4 j p (by simpa using hp)
      · refine .inr ⟨i + 1, x, by simp [cfi, h, h1], by simpa using h2, by simpa using h3, by simp [cget, h, h4], fun y => by simp [cput, h, h5], fun j p hj hp => ?_⟩
        cases j with
        | zero => simp at hp; subst hp; exact h
        | succ j => exact h6 j p (by omega) (by simpa using hp)
set_option maxRecDepth 100000
section
variable {w : World} {F : List Nat} {g n : Nat} {D : DiskSt}
set_option maxHeartbeats 400000 in
theorem ref_Sectors (h : RDsk w F g n D) : Calls Try.prog 73 #[.pointer (some ⟨g, 0, none⟩)] w fun e w' => e = .returned (.int .i64 (n : Int)) ∧ w = w' := by
  obtain ⟨gb, c, NA, nc, CA, cc, V, h⟩ := h
  obtain ⟨q0, q1, q2, q3⟩ := row4 h.row
  have hn := h.ok.n2
  have hq : (((512 * n : Nat) : Int)).tdiv 512 = (n : Int) := by rw [Int.tdiv_eq_ediv_of_nonneg (by omega)]; omega
  have hq2 : (512 * (n : Int)) / 512 = (n : Int) := by omega
  have hq3 : (512 * (n : Int)).tdiv 512 = (n : Int) := by rw [Int.tdiv_eq_ediv_of_nonneg (by omega)]; omega
  have hb : (n : Int) ≤ 32768 := by omega
  clear h hn
  go_enter Try.func73, Try.ntmps73
  go_wp2
  go_ret
  exact ⟨rfl, rfl⟩
set_option maxHeartbeats 400000 in
theorem ref_fails (h : RDsk w F g n D) : Calls Try.prog 80 #[.pointer (some ⟨g, 0, none⟩)] w fun e w' => e = .returned (.bool (ffail D.fuse).1) ∧ RDsk w' F g n { D with fuse := (ffail D.fuse).2 } ∧ TS F w w' := by
  obtain ⟨gb, c, NA, nc, CA, cc, V, h⟩ := h
  obtain ⟨q0, q1, q2, q3⟩ := row4 h.row
  have f3 := frozen_row _ h.row 3
  cases hf : D.fuse with
  | none =>
    have hD : ({ D with fuse := (ffail none).2 } : DiskSt) = D := by cases D; simp only [ffail] at hf ⊢; rw [← hf]
    rw [hD]
    rw [hf] at q3
    have H := Lib.hid h
    clear hf h hD
    unfold fzi at q3
    go_enter Try.func80, Try.ntmps80
    go_wp2
    go_ret
    exact ⟨rfl, ⟨gb, c, NA, nc, CA, cc, V, H.out⟩, TS.refl _ _⟩
  | some z =>
    have hz := h.ok.f z hf
    obtain ⟨hz0, hz1⟩ := hz
    obtain ⟨h1, h2⟩ := h.refuse (ffail (some z)).2 (fun y hy => by
      by_cases hp : 0 < z
      · simp [ffail, hp] at hy; omega
      · simp [ffail, hp] at hy) (z - 1) (by
      by_cases hp : 0 < z
      · simp [ffail, hp, fzi]
      · simp [ffail, hp, fzi]; omega)
    have H1 := Lib.hid h1
    have H2 := Lib.hid h2
    rw [hf] at q3
    have hneg : ¬ z < 0 := by omega
    have hc : (ffail (some z)).1 = decide (z - 1 < 0) := by
      by_cases hp : 0 < z
      · simp [ffail, hp]; omega
      · simp [ffail, hp]; omega
    rw [hc]
    clear hf h h1 h2 hc
    unfold fzi at q3
    go_enter Try.func80, Try.ntmps80
    go_wp2
    go_ret
    exact ⟨by simp, ⟨gb, c, NA, nc, CA, cc, V, H1.out⟩, H2.out⟩
set_option maxHeartbeats 1000000 in
theorem ref_find (h : RDsk w F g n D) (k : Int) : Calls Try.prog 81 #[.pointer (some ⟨g, 0, none⟩), .int .i64 k] w fun e w' => e = .returned (.int .i64 (cfiZ D.M k)) ∧ w = w' := by
  have HML := Lib.hid (Nat.le_trans h.mlen h.ok.n2)
  obtain ⟨gb, c, NA, nc, CA, cc, V, h⟩ := h
  obtain ⟨q0, q1, q2, q3⟩ := row4 h.row
  have hk := (OwnV.info h.keys).2.2.1
  have HR := Lib.hid (show RdV w NA ((D.M.map (·.1)).map (.int .i64)) from by rw [List.map_map]; exact hk)
  have hsp := Lib.hid (cfi_spec D.M k)
  have hml := HML.out
  generalize hZ : cfiZ D.M k = Z
  have HZ := Lib.hid hZ
  clear h hk hZ
  generalize hM : D.M = M at *
  clear hM
  go_enter Try.func81, Try.ntmps81
  go_wp2
  go_loop [5] (fun i => ∃ j : Nat, j ≤ M.length ∧ i = .int .i64 j ∧ Hid (∀ (i : Nat) p, i < j → M[i]? = some p → p.1 ≠ k)) (fun i => M.length - (intOf i).toNat)
  case atStart => exact ⟨0, by omega, rfl, fun i p hi => absurd hi (by omega)⟩
  case round =>
    obtain ⟨j, hj, rfl, HT⟩ := hrel
    by_cases hlt : j < M.length
    · have hjx : (j : Int) < (M.length : Int) := by omega
      obtain ⟨b, o, rfl, hq⟩ := RdV.icell HR.out (j := j) (by rw [List.length_map]; exact hlt)
      rw [List.getElem_map] at hq
      have HMJ := Lib.hid (show M[j]? = some M[j] from List.getElem?_eq_getElem hlt)
      generalize M[j] = p at *
      by_cases hpk : p.1 = k
      · have hbe : (p.1 == k) = true := by simp [hpk]
        have HX := Lib.hid (show Z = (j : Int) from by
          rw [← HZ.out]
          rcases hsp.out with ⟨-, -, -, h4⟩ | ⟨i, x, h1, h2, h3, -, -, h6⟩
          · exact absurd hpk (h4 j p HMJ.out)
          · have : i = j := by
              rcases Nat.lt_trichotomy i j with h | h | h
              · exact absurd rfl (HT.out i _ h h3)
              · exact h
              · exact absurd hpk (h6 j p h HMJ.out)
            unfold cfiZ
            rw [h1, this])
        clear hpk
        go_wp2
        go_ret
        exact ⟨by rw [HX.out]; rfl, rfl⟩
      · have hbe : (p.1 == k) = false := by simpa using hpk
        have HT2 := Lib.hid (show ∀ (i : Nat) q, i < j + 1 → M[i]? = some q → q.1 ≠ k from fun i q hi hq2 => by
          by_cases e : i = j
          · subst e; rw [HMJ.out] at hq2; cases hq2; exact hpk
          · exact HT.out i q (by omega) hq2)
        clear hpk
        go_wp2
        go_round
        case rel => exact ⟨j + 1, by omega, by go_num, HT2.out⟩
        case measure => simp [intOf]; omega
    · obtain rfl : j = M.length := by omega
      have hjx : ¬ (M.length : Int) < (M.length : Int) := by omega
      have HX := Lib.hid (show Z = -1 from by
        rw [← HZ.out]
        rcases hsp.out with ⟨h1, -⟩ | ⟨i, x, h1, h2, h3, -⟩
        · unfold cfiZ; rw [h1]
        · exact absurd rfl (HT.out i _ h2 h3))
      go_wp2
      go_ret
      exact ⟨by rw [HX.out]; rfl, rfl⟩
end
end Go.Proofs.Ytihljjfnjclefaa
/- The reference's disk: the walks through New, Read, Fail, Cached, Image. -/
set_option linter.unusedVariables false
set_option linter.unusedSimpArgs false
namespace Go.Proofs.Ytihljjfnjclefaa
open Go.ChangeShapes Go.WideShapes Go.ChangeAt Go.RowKit Go.MapKept
set_option maxRecDepth 100000

theorem RDsk.new {w w1 : World} {n gb c : Nat} {xs : List Byte} (ho : Own w1 w.heap.size (.slice (some ⟨gb, 0, none⟩) (512 * n) c) xs) (hl : xs.length = 512 * n) (h1 : 1 ≤ n) (h2 : n ≤ 32768) :
    RDsk (w1.alloc (.cells #[.slice (some ⟨gb, 0, none⟩) (512 * n) c, .slice none 0 0, .slice none 0 0, .int .i64 (-1)] 93)) [w1.heap.size, gb] w1.heap.size n ⟨xs, [], none⟩ := by
  have hgb := OwnV.base ho gb rfl
  refine ⟨gb, c, none, 0, none, 0, [], ⟨?_, ?_, ?_, ?_, .nil, ?_, ?_, ?_, ⟨hl, h1, h2, by simp, by simp⟩, by simp⟩⟩
  · exact heap_alloc_new _ _
  · exact (ho.alloc _).lower (Nat.zero_le _)
  · exact OwnV.nil _ _ _
  · exact OwnV.nil _ _ _
  · simp [rctl, optBlk]; omega
  · simp [rctl, optBlk]
  · intro x hx
    simp at hx ⊢
    omega
set_option maxHeartbeats 1000000 in
theorem ref_New_ok (n : Nat) (h1 : 1 ≤ n) (h2 : n ≤ 32768) (w : World) :
    Calls Try.prog 27 #[.int .i64 (n : Int)] w fun e w' => ∃ F g, e = .returned (.tuple #[.pointer (some ⟨g, 0, none⟩), .int .i64 0]) ∧ RDsk w' F g n ⟨List.replicate (512 * n) 0#8, [], none⟩ ∧ FB w w' ∧ (∀ x ∈ F, w.heap.size ≤ x) := by
  obtain ⟨C, hmk, hC⟩ := mk_bytes ((n : Int) * 512) (512 * n) (by omega) (by omega)
  have hw1 : IntKind.i64.wrap ((n : Int) * 512) = (n : Int) * 512 := by rw [IntKind.wrap_i64]; omega
  have hb1 : ¬ (n : Int) < 1 := by omega
  have hb2 : ¬ 32768 < (n : Int) := by omega
  have HO := Lib.hid (show Own (w.alloc (.cells C 5)) w.heap.size (.slice (some ⟨w.heap.size, 0, none⟩) (512 * n) (512 * n)) (List.replicate (512 * n) 0#8) from by
    have := OwnV.lit 5 w (vbs (List.replicate (512 * n) 0#8)) (by rw [vbs_length, List.length_replicate]; simp [maxLen]; omega)
    rw [← hC, vbs_length, List.length_replicate] at this
    exact this)
  have HD := Lib.hid (RDsk.new HO.out (by rw [List.length_replicate]) h1 h2)
  have HF := Lib.hid (((FB.refl w).alloc (.cells C 5)).alloc (.cells #[.slice (some ⟨w.heap.size, 0, none⟩) (512 * n) (512 * n), .slice none 0 0, .slice none 0 0, .int .i64 (-1)] 93))
  have hsz : (w.alloc (.cells C 5)).heap.size = w.heap.size + 1 := by simp
  have HSZ := Lib.hid hsz
  rw [hsz] at HD
  clear hC hsz
  go_enter Try.func27, Try.ntmps27
  go_wp2
  go_ret2
  refine ⟨_, _, ?_, HD.out, HF.out, ?_⟩
  · first | rfl | simp
  · intro x hx
    simp at hx
    omega
set_option maxHeartbeats 1000000 in
theorem ref_New_bad (z : Int) (h : z < 1 ∨ 32768 < z) (w : World) :
    Calls Try.prog 27 #[.int .i64 z] w fun e w' => e = .returned (.tuple #[.pointer none, .int .i64 2]) ∧ w = w' := by
  have hcase : z < 1 ∨ (¬ z < 1 ∧ 32768 < z) := by omega
  clear h
  rcases hcase with h | ⟨h, h'⟩
  all_goals
    go_enter Try.func27, Try.ntmps27
    go_wp2
    go_ret2
    exact ⟨rfl, rfl⟩
section
variable {w : World} {F : List Nat} {g n : Nat} {D : DiskSt}
set_option maxHeartbeats 1000000 in
theorem ref_Fail (h : RDsk w F g n D) (z : Int) (hz : z ≤ 9223372036854775807) : Calls Try.prog 31 #[.pointer (some ⟨g, 0, none⟩), .int .i64 z] w fun e w' => e = .returned (.int .i64 0) ∧ RRes w F g n { D with fuse := if 0 ≤ z then some z else none } w' := by
  obtain ⟨gb, c, NA, nc, CA, cc, V, h⟩ := h
  obtain ⟨q0, q1, q2, q3⟩ := row4 h.row
  have f3 := frozen_row _ h.row 3
  by_cases h0 : 0 ≤ z
  · rw [if_pos h0]
    obtain ⟨h1, h2⟩ := h.refuse (some z) (fun y hy => by cases hy; exact ⟨h0, hz⟩) z rfl
    have H1 := Lib.hid h1
    have H2 := Lib.hid h2
    have hb : (-1 : Int) ≤ z := by omega
    have hb2 : (-1 : Int) < z := by omega
    clear h h1 h2
    go_enter Try.func31, Try.ntmps31
    go_wp2
    go_ret
    exact ⟨rfl, F, fun x hx => .inl hx, ⟨gb, c, NA, nc, CA, cc, V, H1.out⟩, H2.out⟩
  · rw [if_neg h0]
    obtain ⟨h1, h2⟩ := h.refuse none (fun y hy => by cases hy) (-1) rfl
    have H1 := Lib.hid h1
    have H2 := Lib.hid h2
    have hb2 : ¬ (-1 : Int) < z := by omega
    have hb3 : z ≤ (-1 : Int) := by omega
    clear h h1 h2
    go_enter Try.func31, Try.ntmps31
    go_wp2
    go_ret
    exact ⟨rfl, F, fun x hx => .inl hx, ⟨gb, c, NA, nc, CA, cc, V, H1.out⟩, H2.out⟩
end
end Go.Proofs.Ytihljjfnjclefaa
/- The reference's disk: the walk through Read. -/
set_option linter.unusedVariables false
set_option linter.unusedSimpArgs false
namespace Go.Proofs.Ytihljjfnjclefaa
open Go.ChangeShapes Go.WideShapes Go.ChangeAt Go.RowKit Go.MapKept
set_option maxRecDepth 100000

section
variable {w w' : World} {F F' ctl : List Nat} {V : List (Int × Value)} {M : List (Int × List Byte)}
theorem Vals.len (h : Vals w F ctl V M) : V.length = M.length := by
  have := congrArg List.length h.keys
  simpa using this
theorem Vals.at (h : Vals w F ctl V M) : ∀ {i : Nat} {k : Int} {x : List Byte}, M[i]? = some (k, x) →
    ∃ A c, V[i]? = some (k, .slice A x.length c) ∧ Rd w A x ∧ x.length ≤ c ∧ c ≤ maxLen ∧ ∀ ad, A = some ad → ad.block ∈ F ∧ ad.block ∉ ctl := by
  induction h with
  | nil => intro i k x hi; simp at hi
  | @cons k' A c x' V M hr h1 h2 hb ht ih =>
    intro i k x hi
    cases i with
    | zero =>
      simp only [List.getElem?_cons_zero, Option.some.injEq, Prod.mk.injEq] at hi
      obtain ⟨rfl, rfl⟩ := hi
      exact ⟨A, c, rfl, hr, h1, h2, hb⟩
    | succ i => exact ih (by simpa using hi)
theorem Vals.setAt (h : Vals w F ctl V M) (k : Int) {A : Option Addr} {c : Nat} {y : List Byte} (hr : Rd w A y) (h1 : y.length ≤ c) (h2 : c ≤ maxLen) (hb : ∀ ad, A = some ad → ad.block ∈ F ∧ ad.block ∉ ctl) :
    ∀ i, Vals w F ctl (V.set i (k, .slice A y.length c)) (M.set i (k, y)) := by
  induction h with
  | nil => intro i; exact .nil
  | @cons k' A' c' x' V M hr' h1' h2' hb' ht ih =>
    intro i
    cases i with
    | zero => exact .cons hr h1 h2 hb ht
    | succ i => exact .cons hr' h1' h2' hb' (ih i)
theorem Vals.snoc (h : Vals w F ctl V M) (k : Int) {A : Option Addr} {c : Nat} {y : List Byte} (hr : Rd w A y) (h1 : y.length ≤ c) (h2 : c ≤ maxLen) (hb : ∀ ad, A = some ad → ad.block ∈ F ∧ ad.block ∉ ctl) :
    Vals w F ctl (V ++ [(k, .slice A y.length c)]) (M ++ [(k, y)]) := by
  induction h with
  | nil => exact .cons hr h1 h2 hb .nil
  | cons hr' h1' h2' hb' ht ih => exact .cons hr' h1' h2' hb' ih
end
section
variable {w w' : World} {F F' : List Nat} {g n gb c : Nat} {NA : Option Addr} {nc : Nat} {CA : Option Addr} {cc : Nat} {V : List (Int × Value)} {D : DiskSt}
/-- What is cached at a place. -/
theorem RD.at (h : RD w F g n gb c NA nc CA cc V D) {i : Nat} {k : Int} {x : List Byte} (hi : D.M[i]? = some (k, x)) :
    ∃ (cb : Nat) (A : Option Addr) (ca : Nat), CA = some ⟨cb, 0, none⟩ ∧ w.cell? ⟨cb, i, none⟩ = some (.slice A x.length ca) ∧ w.frozen? ⟨cb, i, none⟩ = false ∧ Rd w A x ∧ x.length ≤ ca ∧ ca ≤ maxLen ∧ (∀ ad, A = some ad → ad.block ∈ F ∧ ad.block ∉ rctl g gb NA CA) ∧
      ∀ u, OwnV 22 (w.setCell ⟨cb, i, none⟩ u) 0 (.slice CA D.M.length cc) ((V.map (·.2)).set i u) := by
  obtain ⟨A, ca, hv, h1, h2, h3, h4⟩ := h.vals.at hi
  have hlt : i < V.length := (List.getElem?_eq_some_iff.1 hv).1
  have hr := h.rows
  have hln : D.M.length = (V.map (·.2)).length := by rw [List.length_map, h.vals.len]
  rw [hln] at hr
  unfold OwnV at hr
  have hr' := hr
  rcases hr.2 with ⟨e, h0⟩ | ⟨cb, cap, cur, e, -, -, -⟩
  · rw [List.length_map] at h0; omega
  · simp only [Value.slice.injEq] at e
    obtain ⟨rfl, -, -⟩ := e
    refine ⟨cb, A, ca, rfl, ?_, World.ownsRow.frozenAt hr' i, h1, h2, h3, h4, fun u => ?_⟩
    · rw [World.ownsRow.cellAt hr' i (by rw [List.length_map]; omega), List.getElem?_map, hv]; rfl
    · have := (World.ownsRow.stored hr' i u).1
      rw [hln]
      unfold OwnV
      rw [List.length_set]
      exact this
set_option maxHeartbeats 1000000 in
theorem ref_Read (h : RDsk w F g n D) (k : Int) :
    Calls Try.prog 75 #[.pointer (some ⟨g, 0, none⟩), .int .i64 k] w fun e w' => ∃ A c, e = .returned (.tuple #[.slice A (sdRead D n k).1.length c, .int .i64 (sdRead D n k).2.1]) ∧ Rd w' A (sdRead D n k).1 ∧ (∀ ad, A = some ad → w.heap.size ≤ ad.block) ∧ RDsk w' F g n (sdRead D n k).2.2 ∧ TS F w w' := by
  have H := Lib.hid h
  unfold sdRead
  by_cases hneg : k < 0
  · rw [if_pos (.inl hneg)]
    clear h
    go_enter Try.func75, Try.ntmps75
    go_wp2
    go_ret2
    exact ⟨none, 0, rfl, Rd.nil _ _, fun ad ha => (by cases ha), H.out, TS.refl _ _⟩
  · by_cases hbig : (n : Int) ≤ k
    · rw [if_pos (.inr hbig)]
      clear h
      go_enter Try.func75, Try.ntmps75
      go_wp2_with fail
      refine (ref_Sectors H.out).mono ?_
      rintro e w1 ⟨rfl, rfl⟩
      go_wp2
      go_ret2
      exact ⟨none, 0, rfl, Rd.nil _ _, fun ad ha => (by cases ha), H.out, TS.refl _ _⟩
    · rw [if_neg (by omega)]
      have HFA := Lib.hid (ref_fails h)
      have hk0 : 0 ≤ k := by omega
      have hkn : k < (n : Int) := by omega
      have hn2 := h.ok.n2
      cases hff : (ffail D.fuse).1 with
      | true =>
        rw [if_pos rfl]
        rw [hff] at HFA
        clear h hff
        go_enter Try.func75, Try.ntmps75
        go_wp2_with fail
        refine (ref_Sectors H.out).mono ?_
        rintro e w1 ⟨rfl, rfl⟩
        go_wp2_with fail
        refine HFA.out.mono ?_
        rintro e w1 ⟨rfl, hd, ht⟩
        have HD1 := Lib.hid hd
        have HT1 := Lib.hid ht
        clear hd ht
        go_wp2
        go_ret2
        exact ⟨none, 0, rfl, Rd.nil _ _, fun ad ha => (by cases ha), HD1.out, HT1.out⟩
      | false =>
        rw [if_neg (by simp)]
        rw [hff] at HFA
        generalize (ffail D.fuse).2 = fz at *
        have hXL : ((cget D.M k).getD (sec D.b k.toNat)).length = 512 := by
          cases hc : cget D.M k with
          | none => exact sec_len h.ok.len (by omega)
          | some y =>
            obtain ⟨j, -, hj⟩ := cget_some_at hc
            exact (h.ok.M _ (List.mem_of_getElem? hj)).2.2
        generalize hX : (cget D.M k).getD (sec D.b k.toNat) = xs at *
        have HX := Lib.hid hX
        have HXL := Lib.hid hXL
        rw [hXL]
        clear h hff hX hXL
        go_enter Try.func75, Try.ntmps75
        go_wp2_with fail
        refine (ref_Sectors H.out).mono ?_
        rintro e w1 ⟨rfl, rfl⟩
        go_wp2_with fail
        refine HFA.out.mono ?_
        rintro e w1 ⟨rfl, hd, ht⟩
        have HD1 := Lib.hid hd
        have HT1 := Lib.hid ht
        clear hd ht
        go_wp2_with fail
        refine (ref_find HD1.out k).mono ?_
        rintro e w2 ⟨rfl, rfl⟩
        obtain ⟨gb, c, NA, nc, CA, cc, V, hD⟩ := HD1.out
        have hDa := hD.fb ((FB.refl w1).alloc (.cells #[] 5))
        have HML := Lib.hid hD.mlen
        obtain ⟨q0, q1, q2, q3⟩ := row4 hDa.row
        simp only at q1 q2
        rcases cfi_spec D.M k with ⟨h1, h2, -, -⟩ | ⟨i, x, h1, h2, h3, h4, -, -⟩
        · rw [show cfiZ D.M k = -1 from by unfold cfiZ; rw [h1]]
          have hxs : sec D.b k.toNat = xs := by have := HX.out; rw [h2] at this; exact this
          clear h1 h2
          obtain ⟨kn, rfl⟩ : ∃ kn : Nat, k = (kn : Int) := ⟨k.toNat, by omega⟩
          have hkn2 : kn < n := by omega
          have hL := hD.ok.len
          simp only at hL
          have hi := (Own.info hDa.bytes)
          obtain ⟨A', hcut, hcr, hA⟩ := cut_at (some ⟨gb, 0, none⟩) c D.b (512 * kn) 512 (by omega) (by rw [hL]; have := hi.1; simp only [hL] at this; omega)
          rw [hL] at hcut
          have HRS := Lib.hid (show Rd (w1.alloc (.cells #[] 5)) A' xs from by rw [← hxs]; exact hcr _ hi.2.2.1)
          have hw1 : IntKind.i64.wrap ((kn : Int) * 512) = (kn : Int) * 512 := by rw [IntKind.wrap_i64]; omega
          have hw2 : IntKind.i64.wrap ((kn : Int) + 1) = (kn : Int) + 1 := by rw [IntKind.wrap_i64]; omega
          have hw3 : IntKind.i64.wrap (((kn : Int) + 1) * 512) = ((kn : Int) + 1) * 512 := by rw [IntKind.wrap_i64]; omega
          have hcut2 : ∀ W, (Instr.slice 22 (.slice (some ⟨gb, 0, none⟩) (512 * n) c) (some (.int .i64 ((kn : Int) * 512))) (some (.int .i64 (((kn : Int) + 1) * 512))) none).run Try.prog W = .ok (.slice A' 512 (c - 512 * kn)) W := fun W => by
            have := hcut W
            rw [show ((512 * kn : Nat) : Int) = (kn : Int) * 512 by omega, show (kn : Int) * 512 + ((512 : Nat) : Int) = ((kn : Int) + 1) * 512 by omega] at this
            exact this
          clear hD hDa hL hi hcut hcr hA hxs
          go_wp2_with (at_builtin; refine wpList_append_bytes rfl _ _ rfl w1.heap.size _ [] (OwnV.lit _ w1 [] (by simp)) rfl _ _ xs (by rw [HXL.out]; rfl) HRS.out (by have := HXL.out; simp; omega) (by simp) ?_; intro v' w3 ho hg _; have HO := Lib.hid ho; have HG := Lib.hid hg; clear ho hg)
          have ho := HO.out
          rw [List.nil_append] at ho
          obtain ⟨A3, c3, rfl, -⟩ := ho.form
          rw [HXL.out] at ho ⊢
          have HO3 := Lib.hid (Own.info ho)
          have HF3 := Lib.hid (show FB w1 w3 from ((FB.refl w1).alloc _).grown HG.out (by simp [Value.ownBlock]))
          clear ho HO HG
          go_ret2
          exact ⟨A3, c3, rfl, HO3.out.2.2.1, fun ad ha => Nat.le_trans HT1.out.size (HO3.out.2.2.2.2 ad ha).1, HD1.out.fb HF3.out, HT1.out.then (TS.of HF3.out)⟩
        · rw [show cfiZ D.M k = (i : Int) from by unfold cfiZ; rw [h1]]
          obtain rfl : x = xs := by have := HX.out; rw [h4] at this; exact this
          obtain ⟨cb, A, ca, rfl, r1, -, r2, r3, r4, -, -⟩ := hDa.at h3
          have hml : (D.M.length : Int) ≤ 32768 := by have := HML.out; simp only at this; omega
          have hil : (i : Int) < (D.M.length : Int) := by omega
          have HRX := Lib.hid r2
          have hi0 : ¬ (i : Int) < 0 := by omega
          have hi1 : (0 : Int) ≤ (i : Int) := by omega
          rw [HXL.out] at r1
          clear h1 h2 h3 h4 r2 r3 r4 hD hDa
          go_wp2_with (at_builtin; refine wpList_append_bytes rfl _ _ rfl w1.heap.size _ [] (OwnV.lit _ w1 [] (by simp)) rfl _ _ x (by rw [HXL.out]; rfl) HRX.out (by have := HXL.out; simp; omega) (by simp) ?_; intro v' w3 ho hg _; have HO := Lib.hid ho; have HG := Lib.hid hg; clear ho hg)
          have ho := HO.out
          rw [List.nil_append] at ho
          obtain ⟨A3, c3, rfl, -⟩ := ho.form
          rw [HXL.out] at ho ⊢
          have HO3 := Lib.hid (Own.info ho)
          have HF3 := Lib.hid (show FB w1 w3 from ((FB.refl w1).alloc _).grown HG.out (by simp [Value.ownBlock]))
          clear ho HO HG
          go_ret2
          exact ⟨A3, c3, rfl, HO3.out.2.2.1, fun ad ha => Nat.le_trans HT1.out.size (HO3.out.2.2.2.2 ad ha).1, HD1.out.fb HF3.out, HT1.out.then (TS.of HF3.out)⟩
end
end Go.Proofs.Ytihljjfnjclefaa
