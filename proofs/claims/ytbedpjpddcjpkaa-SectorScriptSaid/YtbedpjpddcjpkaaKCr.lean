/- The walk through tallymankit.Crash. -/
import Derived.Test.YtbedpjpddcjpkaaActs
import Derived.Test.YtbedpjpddcjpkaaSchL
import Derived.Laws.CopyOwn
set_option linter.unusedVariables false
set_option linter.unusedSimpArgs false
namespace Go.Proofs.Ytbedpjpddcjpkaa
open Go.ChangeShapes Go.WideShapes Go.ChangeAt Go.RowKit Go.MapKept

theorem results_cell1 {P : Program} {fn : Func} {a : Tmp} {ty : TypeId} (h : fn.results = #[.cell a ty]) (tmps : Array Value) (g : Nat) (hg : tmps.getD a undef = .pointer (some ⟨g, 0, none⟩)) (w : World) (v : Value)
    (hl : (loadVar ty ⟨g, 0, none⟩).run P w = .ok v w) : (results fn tmps).run P w = .ok v w := by
  have hg' : tmps[a]?.getD undef = .pointer (some ⟨g, 0, none⟩) := by simpa using hg
  simp [results, h, hg', asAddr, hl]
theorem info_bool : (Try.prog.info? 4).map (fun i => (i.zero, i.size, i.bytes)) = some (some (.bool false), 1, 1) := by kernel_rfl
theorem TB.setRow (g : Nat) (w : World) (cs : Array Value) : TB g w (w.setRow g cs) := ⟨rfl, rfl, rfl, by simp, fun k _ hk => setRow_other w g k cs (fun e => hk (by simp [e]))⟩
theorem FB.setRow {w0 w : World} (h : FB w0 w) {g : Nat} (hg : w0.heap.size ≤ g) (cs : Array Value) : FB w0 (w.setRow g cs) := below_setRow h hg cs
theorem store_crash {W : World} {g : Nat} {a b c : Value} (x y z : Value) (h : W.heap[g]? = some (.cells #[a, b, c] 25 (0, 0))) (h1 : (#[x, y, z]).all (·.oneCell') = true) :
    (Instr.storeAt 25 (.pointer (some ⟨g, 0, none⟩)) (.agg #[x, y, z])).run Try.prog W = .ok () (W.setRow g #[x, y, z]) := by
  simp only [Instr.storeAt, Instr.sureAddr, Sem.run_bind, Sem.run_pure, Result.andThen]
  exact run_storeVar_row W g _ _ _ _ h (by kernel_rfl) rfl h1
set_option maxRecDepth 100000 in
set_option maxHeartbeats 1000000 in
theorem kit_Crash (KA : Option Addr) (ks : List Bool) (kc : Nat) (T Y : Int) (w : World) (hr : RdV w KA (ks.map .bool)) (hl : ks.length ≤ 1000000000) :
    Calls Try.prog 19 #[.agg #[.slice KA ks.length kc, .int .i64 T, .int .i64 Y]] w fun e w' => ∃ A c, e = .returned (.agg #[.slice A ks.length c, .int .i64 T, .int .i64 Y]) ∧ RdV w' A (ks.map .bool) ∧ FB w w' ∧ ∀ ad, A = some ad → w.heap.size ≤ ad.block := by
  have HR := Lib.hid hr
  have HL := Lib.hid hl
  clear hr hl
  go_enter Try.func19, Try.ntmps19
  go_wp2_with fail
  have HFa := Lib.hid (((FB.refl w).alloc (.cells #[.slice KA ks.length kc, .int .i64 T, .int .i64 Y] 25)).alloc (.cells #[.slice none 0 0, .int .i64 0, .int .i64 0] 25))
  have HBXa := Lib.hid (show ((w.alloc (.cells #[.slice KA ks.length kc, .int .i64 T, .int .i64 Y] 25)).alloc (.cells #[.slice none 0 0, .int .i64 0, .int .i64 0] 25)).heap[w.heap.size]? = some (.cells #[.slice KA ks.length kc, .int .i64 T, .int .i64 Y] 25 (0, 0)) from by
    rw [((FB.refl (w.alloc (.cells #[.slice KA ks.length kc, .int .i64 T, .int .i64 Y] 25))).alloc _).block _ (by simp)]; exact heap_alloc_new _ _)
  have HRWa := Lib.hid (show ((w.alloc (.cells #[.slice KA ks.length kc, .int .i64 T, .int .i64 Y] 25)).alloc (.cells #[.slice none 0 0, .int .i64 0, .int .i64 0] 25)).heap[w.heap.size + 1]? = some (.cells #[.slice none 0 0, .int .i64 0, .int .i64 0] 25 (0, 0)) from by
    have := heap_alloc_new (w.alloc (.cells #[.slice KA ks.length kc, .int .i64 T, .int .i64 Y] 25)) (.cells #[.slice none 0 0, .int .i64 0, .int .i64 0] 25)
    simpa using this)
  have HRa := Lib.hid (HFa.out.rdV HR.out)
  generalize (w.alloc (.cells #[.slice KA ks.length kc, .int .i64 T, .int .i64 Y] 25)).alloc (.cells #[.slice none 0 0, .int .i64 0, .int .i64 0] 25) = W0 at *
  refine region_schL (E := Below (W0.heap.size)) 9 ((1, true) :: (2, true) :: (4, true) :: (5, true) :: (6, true) :: (7, true) :: (0, false) :: (3, false) :: (8, false) :: []) (by kernel_rfl) (Below.refl _) (fun _ _ _ h k => Below.trans h k) (fun _ _ d _ _ h => by cases d <;> exact h) (by kernel_rfl) ?_
  intro ops hops0
  have hops := Lib.hid hops0
  clear hops0
  have HF : Below (W0.heap.size) W0 W0.drew := (Below.refl _ _).drew
  generalize W0.drew = wF at *
  repeat (refine sch_take (o := ?_) (v := ?_) (a' := ?_) (at_of hops.out ?_) ?_ (fun W hW => ?_) ?_ ?_; rotate_left 3; (focus (simp only [List.getElem?_toArray, List.getElem?_cons_zero, List.getElem?_cons_succ]; rfl)); (focus (rw [hops.out]; rfl)); (focus (obtain ⟨q0, q1, q2⟩ := row3 ((Below.block (HF.trans hW) _ (Array.getElem?_eq_some_iff.1 HBXa.out).1).trans HBXa.out); go_simp; with_reducible rfl)); (focus (simp only [Act.put, List.setIfInBounds_toArray, List.set_cons_zero, List.set_cons_succ]; rfl)))
  have hle : W0.heap.size ≤ wF.heap.size := Below.size HF
  have HLE := Lib.hid hle
  clear hle
  (refine sch_run (o := ?_) (v := ?_) (a' := ?_) (w' := ?_) (at_of hops.out ?_) ?_ ?_ ?_ ?_ ?_; rotate_left 4; (focus (simp only [List.getElem?_toArray, List.getElem?_cons_zero, List.getElem?_cons_succ]; rfl)); (focus (rw [hops.out]; rfl)); (focus (go_simp; constructor <;> with_reducible rfl)); (focus (exact (Below.refl _ _).alloc HLE.out _)); (focus (simp only [Act.put, List.setIfInBounds_toArray, List.set_cons_zero, List.set_cons_succ]; rfl)))
  (refine sch_append (o := ?_) (at_of hops.out ?_) ?_ (.tmp 3) (.tmp 5) 23 4 1 (.bool false) Try.underlying23 info_bool rfl ?_ wF.heap.size _ [] (OwnV.lit _ wF [] (by simp)) ?_ KA ks.length kc (ks.map .bool) (by rw [List.length_map]) ?_ ((RdV.below HRa.out (Below.mono HF (Nat.le_refl _))).alloc _) (fun u hu => by obtain ⟨b, -, rfl⟩ := List.mem_map.1 hu; rfl) (by have := HL.out; simp [maxLen]; omega) (by have := HL.out; simp; omega) (by simp) ?_; rotate_left 1; (focus (simp only [List.getElem?_toArray, List.getElem?_cons_zero, List.getElem?_cons_succ]; rfl)); (focus (rw [hops.out]; rfl)); (focus rfl); (focus rfl); (focus rfl))
  intro v' w' ho hg _
  have hE : Below W0.heap.size (wF.alloc (.cells #[] 4)) w' := (Below.refl _ _).grown hg (by have := HLE.out; simp; omega) (fun k hk => by cases hk; exact HLE.out)
  obtain ⟨A', c', rfl, h1, h2, h3, h4⟩ := OwnV.form ho
  rw [List.nil_append] at h3
  have HE := Lib.hid hE
  have HR3 := Lib.hid h3
  have HA4 := Lib.hid (fun ad (ha : A' = some ad) => show w.heap.size + 1 < ad.block from by have h5 := (Array.getElem?_eq_some_iff.1 HRWa.out).1; have h6 := (h4 ad ha).1; have h7 := HLE.out; omega)
  have HA3 := Lib.hid (fun ad (ha : A' = some ad) => Nat.le_trans (HFa.out.le) (Nat.le_trans HLE.out (h4 ad ha).1))
  clear ho hg hE h1 h2 h3 h4
  refine ⟨HE.out, ?_⟩
  intro a' ha'
  simp only [Act.put, List.setIfInBounds_toArray, List.set_cons_zero, List.set_cons_succ] at ha'
  subst ha'
  simp only [List.nil_append, List.length_map]
  (refine sch_run (o := ?_) (v := ?_) (a' := ?_) (w' := ?_) (at_of hops.out ?_) ?_ ?_ ?_ ?_ ?_; rotate_left 4; (focus (simp only [List.getElem?_toArray, List.getElem?_cons_zero, List.getElem?_cons_succ]; rfl)); (focus (rw [hops.out]; rfl)); (focus (go_simp; constructor <;> with_reducible rfl)); (focus (exact Below.refl _ _)); (focus (simp only [Act.put, List.setIfInBounds_toArray, List.set_cons_zero, List.set_cons_succ]; rfl)))
  have HRWc := Lib.hid (show w'.heap[w.heap.size + 1]? = some (.cells #[.slice none 0 0, .int .i64 0, .int .i64 0] 25 (0, 0)) from by
    have hlt := (Array.getElem?_eq_some_iff.1 HRWa.out).1
    rw [Below.block (Below.trans (Below.alloc HF HLE.out _) HE.out) _ hlt]; exact HRWa.out)
  have hst := store_crash (.slice A' ks.length c') (.int .i64 T) (.int .i64 Y) HRWc.out (by simp [Value.oneCell'])
  (refine schL_store (o := ?_) (at_of hops.out ?_) ?_ 25 (.tmp 2) (.tmp 11) ?_ _ _ ?_ ?_ hst ?_; rotate_left 1; (focus (simp only [List.getElem?_toArray, List.getElem?_cons_zero, List.getElem?_cons_succ]; rfl)); (focus (rw [hops.out]; rfl)); (focus rfl); (focus rfl); (focus rfl))
  have HROW := Lib.hid (setRow_heap w' (w.heap.size + 1) _ #[.slice A' ks.length c', .int .i64 T, .int .i64 Y] _ _ HRWc.out)
  have HEND := Lib.hid (FB.setRow (HFa.out.trans (Below.trans (Below.alloc HF HLE.out (.cells #[] 4)) HE.out)) (g := w.heap.size + 1) (Nat.le_succ _) #[.slice A' ks.length c', .int .i64 T, .int .i64 Y])
  have HR4 := Lib.hid (show RdV (w'.setRow (w.heap.size + 1) #[.slice A' ks.length c', .int .i64 T, .int .i64 Y]) A' (ks.map .bool) from
    (TS.tb (F := [w.heap.size + 1]) (TB.setRow _ w' _) (by simp)) |> fun ht => RdV.move HR3.out fun a v e hc => ht.cell hc (by
      cases A' with
      | none => cases e
      | some ad =>
        have h1 := HA4.out ad rfl
        simp at e
        rw [← e]
        simp only [List.mem_singleton]
        omega))
  clear hst hops HF
  have hsz : (Try.prog.info? 25).map (·.size) = some (#[Value.slice A' ks.length c', .int .i64 T, .int .i64 Y] : Array Value).size := by kernel_rfl
  have HZ := Lib.hid hsz
  clear hsz
  go_wp2
  exact bodyPost_ret (v := .agg #[.slice A' ks.length c', .int .i64 T, .int .i64 Y]) (results_cell_row Try.results19 _ _ (w.heap.size + 1) 25 _ (0, 0) _ rfl HROW.out Try.underlying25 rfl HZ.out) rfl ⟨A', c', rfl, HR4.out, HEND.out, HA3.out⟩
end Go.Proofs.Ytbedpjpddcjpkaa
