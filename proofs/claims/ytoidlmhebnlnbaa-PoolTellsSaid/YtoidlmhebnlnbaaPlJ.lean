/- pool: no pool; a page of one byte; a pool as it stands in a walk. -/
import Derived.Test.YtoidlmhebnlnbaaPlI
set_option linter.unusedVariables false
set_option linter.unusedSimpArgs false
namespace Go.Proofs.Ytoidlmhebnlnbaa
open Go.ChangeShapes Go.WideShapes Go.ChangeAt Go.RowKit
attribute [local go_sem] nb_nonneg nb_lt8 nb_lt64
set_option maxRecDepth 100000

set_option maxHeartbeats 400000 in
theorem pl_made_nil (w : World) : Calls Try.prog 28 #[.pointer none] w fun e w' => e = .returned (.bool false) ∧ w = w' := by
  go_enter Try.func28, Try.ntmps28
  go_wp2
  go_ret
  exact ⟨rfl, rfl⟩
set_option maxHeartbeats 400000 in
theorem pl_Get_nil (k : Int) (w : World) : Calls Try.prog 9 #[.pointer none, .int .i64 k] w fun e w' => e = .returned (.tuple #[.slice none 0 0, .int .i64 1]) ∧ w = w' := by
  go_enter Try.func9, Try.ntmps9
  go_wp2_with fail
  refine (pl_made_nil w).mono ?_
  rintro e w1 ⟨rfl, rfl⟩
  go_wp2
  go_ret2
  exact ⟨rfl, rfl⟩
set_option maxHeartbeats 400000 in
theorem pl_Put_nil (k : Int) (v : Value) (w : World) : Calls Try.prog 13 #[.pointer none, .int .i64 k, v] w fun e w' => e = .returned (.int .i64 1) ∧ w = w' := by
  go_enter Try.func13, Try.ntmps13
  go_wp2_with fail
  refine (pl_made_nil w).mono ?_
  rintro e w1 ⟨rfl, rfl⟩
  go_wp2
  go_ret
  exact ⟨rfl, rfl⟩
set_option maxHeartbeats 400000 in
theorem pl_Pin_nil (k : Int) (w : World) : Calls Try.prog 17 #[.pointer none, .int .i64 k] w fun e w' => e = .returned (.int .i64 1) ∧ w = w' := by
  go_enter Try.func17, Try.ntmps17
  go_wp2_with fail
  refine (pl_made_nil w).mono ?_
  rintro e w1 ⟨rfl, rfl⟩
  go_wp2
  go_ret
  exact ⟨rfl, rfl⟩
set_option maxHeartbeats 400000 in
theorem pl_Unpin_nil (k : Int) (w : World) : Calls Try.prog 11 #[.pointer none, .int .i64 k] w fun e w' => e = .returned (.int .i64 1) ∧ w = w' := by
  go_enter Try.func11, Try.ntmps11
  go_wp2_with fail
  refine (pl_made_nil w).mono ?_
  rintro e w1 ⟨rfl, rfl⟩
  go_wp2
  go_ret
  exact ⟨rfl, rfl⟩
set_option maxHeartbeats 400000 in
theorem pl_Evict_nil (k : Int) (w : World) : Calls Try.prog 12 #[.pointer none, .int .i64 k] w fun e w' => e = .returned (.int .i64 1) ∧ w = w' := by
  go_enter Try.func12, Try.ntmps12
  go_wp2_with fail
  refine (pl_made_nil w).mono ?_
  rintro e w1 ⟨rfl, rfl⟩
  go_wp2
  go_ret
  exact ⟨rfl, rfl⟩
set_option maxHeartbeats 400000 in
theorem pl_Drop_nil (k : Int) (w : World) : Calls Try.prog 14 #[.pointer none, .int .i64 k] w fun e w' => e = .returned (.int .i64 1) ∧ w = w' := by
  go_enter Try.func14, Try.ntmps14
  go_wp2_with fail
  refine (pl_made_nil w).mono ?_
  rintro e w1 ⟨rfl, rfl⟩
  go_wp2
  go_ret
  exact ⟨rfl, rfl⟩
set_option maxHeartbeats 400000 in
theorem pl_Clean_nil (w : World) : Calls Try.prog 18 #[.pointer none] w fun e w' => e = .returned (.int .i64 1) ∧ w = w' := by
  go_enter Try.func18, Try.ntmps18
  go_wp2_with fail
  refine (pl_made_nil w).mono ?_
  rintro e w1 ⟨rfl, rfl⟩
  go_wp2
  go_ret
  exact ⟨rfl, rfl⟩
set_option maxHeartbeats 400000 in
theorem pl_Flush_nil (w : World) : Calls Try.prog 21 #[.pointer none] w fun e w' => e = .returned (.int .i64 1) ∧ w = w' := by
  go_enter Try.func21, Try.ntmps21
  go_wp2_with fail
  refine (pl_Clean_nil w).mono ?_
  rintro e w1 ⟨rfl, rfl⟩
  go_wp2
  go_ret
  exact ⟨rfl, rfl⟩
set_option maxHeartbeats 400000 in
theorem pl_Reset_nil (w : World) : Calls Try.prog 24 #[.pointer none] w fun e w' => e = .returned (.int .i64 1) ∧ w = w' := by
  go_enter Try.func24, Try.ntmps24
  go_wp2_with fail
  refine (pl_made_nil w).mono ?_
  rintro e w1 ⟨rfl, rfl⟩
  go_wp2
  go_ret
  exact ⟨rfl, rfl⟩
set_option maxHeartbeats 400000 in
theorem pl_Frames_nil (w : World) : Calls Try.prog 19 #[.pointer none] w fun e w' => e = .returned (.slice none 0 0) ∧ w = w' := by
  go_enter Try.func19, Try.ntmps19
  go_wp2_with fail
  refine (pl_made_nil w).mono ?_
  rintro e w1 ⟨rfl, rfl⟩
  go_wp2
  go_ret
  exact ⟨rfl, rfl⟩
set_option maxHeartbeats 1000000 in
theorem law7_row (v : Byte) (w : World) : Calls Try.prog 16 #[.int .u8 (nb v)] w fun e w' => ∃ A, e = .returned (.slice A 4096 4096) ∧ Own w' w.heap.size (.slice A 4096 4096) (List.replicate 4096 v) ∧ FB w w' := by
  obtain ⟨C, hmk, hC⟩ := mk_bytes 4096 4096 rfl (by omega)
  have HO := Lib.hid (show Own (w.alloc (.cells C 5)) w.heap.size (.slice (some ⟨w.heap.size, 0, none⟩) 4096 4096) (List.replicate 0 v ++ List.replicate (4096 - 0) 0#8) from by
    have := OwnV.lit 5 w (vbs (List.replicate 4096 0#8)) (by rw [vbs_length]; simp [maxLen])
    rw [← hC] at this
    unfold Own
    simpa [vbs_length] using this)
  clear hC
  go_enter Try.func16, Try.ntmps16
  go_wp2
  have HF0 := Lib.hid ((FB.refl w).alloc (.cells C 5))
  go_loopw [4] (fun i wr => ∃ j : Nat, j ≤ 4096 ∧ i = .int .i64 j ∧ Hid (Own wr w.heap.size (.slice (some ⟨w.heap.size, 0, none⟩) 4096 4096) (List.replicate j v ++ List.replicate (4096 - j) 0#8)) ∧ Hid (FB w wr)) (fun i _ => 4096 - (intOf i).toNat)
  case atStart => exact ⟨0, by omega, rfl, HO.out, HF0.out⟩
  case round =>
    obtain ⟨j, hj, rfl, HR, HF⟩ := hrel
    by_cases hlt : j < 4096
    · obtain ⟨hq, hfz, hst⟩ := Own.cellset0 HR.out (j := j) (by simp; omega)
      have hst2 := hst v
      rw [fill_set v j 4096 hlt] at hst2
      have HST := Lib.hid hst2
      have HFS := Lib.hid (HF.out.set (p := ⟨w.heap.size, j, none⟩) (Nat.le_refl _) (vb v))
      have hjx : (j : Int) < 4096 := by omega
      unfold vb at *
      clear hst hst2
      go_wp2
      go_roundw
      case rel => exact ⟨j + 1, by omega, by go_num, HST.out, HFS.out⟩
      case measure => simp [intOf]; omega
    · obtain rfl : j = 4096 := by omega
      go_wp2
      go_ret
      exact ⟨_, rfl, by have := HR.out; simpa using this, HF.out⟩
/-- A pool of the walk's own (all it owns has come since w0), and blocks K that it does not own. -/
structure PoA (w0 : World) (K : List Nat) (g n gp gf : Nat) (st : PlSt) (w : World) : Prop where
  po : ∃ F xs, Pol w F g n gp gf xs st.hand st.D ∧ xs.map (·.f) = st.fs ∧ (∀ x ∈ gp :: gf :: F, w0.heap.size ≤ x) ∧ (∀ b ∈ K, b < w.heap.size ∧ b ∉ gp :: gf :: F)
  fb : FB w0 w
/-- These blocks are as they were. -/
def KP (K : List Nat) (w w' : World) : Prop := w.heap.size ≤ w'.heap.size ∧ ∀ b ∈ K, w'.heap[b]? = w.heap[b]?
section
variable {w0 w w' : World} {K : List Nat} {g n gp gf : Nat} {st st' : PlSt}
theorem KP.refl (K : List Nat) (w : World) : KP K w w := ⟨Nat.le_refl _, fun _ _ => rfl⟩
theorem KP.trans {a b c : World} (h : KP K a b) (k : KP K b c) : KP K a c := ⟨Nat.le_trans h.1 k.1, fun x hx => (k.2 x hx).trans (h.2 x hx)⟩
theorem KP.rdV {A : Option Addr} {vs : List Value} (h : KP K w w') (hr : RdV w A vs) (ha : ∀ ad, A = some ad → ad.block ∈ K) : RdV w' A vs :=
  RdV.move hr fun a v e hc => (World.cell?_of_block (h.2 a.block (by
    cases A with
    | none => cases e
    | some ad => simp at e; rw [← e]; exact ha ad rfl))).trans hc
theorem PoA.kp (h : PoA w0 K g n gp gf st w) (t : FB w w') : KP K w w' := by
  obtain ⟨F, xs, h1, h2, h3, h4⟩ := h.po
  exact ⟨t.le, fun b hb => t.block b (h4 b hb).1⟩
theorem PoA.byFB (h : PoA w0 K g n gp gf st w) (t : FB w w') : PoA w0 K g n gp gf st w' ∧ KP K w w' := by
  refine ⟨?_, h.kp t⟩
  obtain ⟨⟨F, xs, h1, h2, h3, h4⟩, h5⟩ := h
  exact ⟨⟨F, xs, h1.fb t, h2, h3, fun b hb => ⟨Nat.lt_of_lt_of_le (h4 b hb).1 t.le, (h4 b hb).2⟩⟩, h5.trans t⟩
/-- A block that has just come is none of the pool's. -/
theorem PoA.add (h : PoA w0 K g n gp gf st w) (t : FB w w') (b : Nat) (hb : w.heap.size ≤ b) (hl : b < w'.heap.size) : PoA w0 (b :: K) g n gp gf st w' := by
  obtain ⟨⟨F, xs, h1, h2, h3, h4⟩, h5⟩ := h
  refine ⟨⟨F, xs, h1.fb t, h2, h3, fun x hx => ?_⟩, h5.trans t⟩
  rcases List.mem_cons.1 hx with rfl | hx
  · refine ⟨hl, fun hm => ?_⟩
    have hlt := h1.lt
    rcases List.mem_cons.1 hm with e | hm
    · omega
    · rcases List.mem_cons.1 hm with e | hm
      · omega
      · have := h1.dsk.lt _ hm; omega
  · exact ⟨Nat.lt_of_lt_of_le (h4 x hx).1 t.le, (h4 x hx).2⟩
theorem PoA.fewer {K' : List Nat} (h : PoA w0 K g n gp gf st w) (hs : ∀ b ∈ K', b ∈ K) : PoA w0 K' g n gp gf st w := by
  obtain ⟨⟨F, xs, h1, h2, h3, h4⟩, h5⟩ := h
  exact ⟨⟨F, xs, h1, h2, h3, fun b hb => h4 b (hs b hb)⟩, h5⟩
/-- A small block of K is written: the pool is as it was (a page's bytes do not lie there). -/
theorem PoA.set (h : PoA w0 K g n gp gf st w) (b i : Nat) (v : Value) (hb : b ∈ K) (h0 : w0.heap.size ≤ b) {cs : Array Value} {t : TypeId} {fr : Nat × Nat} (hr : w.heap[b]? = some (.cells cs t fr)) (hs : cs.size < 4096) (hf : ∀ f ∈ st.fs, f.b = [] ∨ f.b.length = 4096) : PoA w0 K g n gp gf st (w.setCell ⟨b, i, none⟩ v) := by
  obtain ⟨⟨F, xs, h1, h2, h3, h4⟩, h5⟩ := h
  have kb := TB.set (g := b) w i v
  have ks := TS.tb (F := [b]) kb (by simp)
  have hn := (h4 b hb).2
  have hnp : gp ≠ b := fun e => hn (by rw [e]; simp)
  have hnf : gf ≠ b := fun e => hn (by rw [e]; simp)
  have hnF : b ∉ F := fun e => hn (List.mem_cons_of_mem _ (List.mem_cons_of_mem _ e))
  refine ⟨⟨F, xs, ⟨h1.dsk.ts ks (fun y hy hm => by simp at hy; subst hy; exact hnF hm), (ks.block _ h1.lt.1 (by simpa using hnp)).trans h1.prow, (ks.block _ h1.lt.2 (by simpa using hnf)).trans h1.frow, fun x hx => ?_, h1.bd, h1.ne, h1.hl, h1.n256⟩, h2, h3, fun x hx => ⟨Nat.lt_of_lt_of_le (h4 x hx).1 kb.le, (h4 x hx).2⟩⟩, h5.tb kb h0⟩
  obtain ⟨q1, q2, q3, q4⟩ := h1.rd x hx
  refine ⟨?_, q2, q3, fun ad ha => ⟨Nat.lt_of_lt_of_le (q4 ad ha).1 ks.size, (q4 ad ha).2⟩⟩
  rcases hf x.f (by rw [← h2]; exact List.mem_map_of_mem hx) with e | e
  · rw [e]; exact Rd.nil _ _
  · refine ks.rd q1 (fun ad ha hm => ?_)
    have hm2 : ad.block = b := by simpa using hm
    obtain ⟨b1, o, e1, hc⟩ := q1 4095 (by rw [vbs_length, e]; omega)
    rw [ha] at e1
    cases e1
    have hm3 : b1 = b := hm2
    rw [cell_of_row w b1 (o + 4095) cs t fr (by rw [hm3]; exact hr), Array.getElem?_eq_none (by omega)] at hc
    cases hc
theorem PoA.step {F : List Nat} {xs : List FrX} (h1 : Pol w F g n gp gf xs st.hand st.D) (h3 : ∀ x ∈ gp :: gf :: F, w0.heap.size ≤ x) (h4 : ∀ b ∈ K, b < w.heap.size ∧ b ∉ gp :: gf :: F) (h5 : FB w0 w) (h : PolR w F g n gp gf st' w') : PoA w0 K g n gp gf st' w' ∧ KP K w w' := by
  obtain ⟨F', ys, q1, q2, q3, q4⟩ := h
  refine ⟨⟨⟨F', ys, q1, q2, fun x hx => ?_, fun b hb => ⟨Nat.lt_of_lt_of_le (h4 b hb).1 q4.size, fun hm => ?_⟩⟩, h5.ts q4 h3⟩, q4.size, fun b hb => q4.block b (h4 b hb).1 (h4 b hb).2⟩
  · rcases List.mem_cons.1 hx with rfl | hx
    · exact h3 _ (by simp)
    · rcases List.mem_cons.1 hx with rfl | hx
      · exact h3 _ (by simp)
      · rcases q3 x hx with hh | hh
        · exact h3 x (List.mem_cons_of_mem _ (List.mem_cons_of_mem _ hh))
        · exact Nat.le_trans h5.le hh
  · have hn := (h4 b hb).2
    rcases List.mem_cons.1 hm with e | hm
    · exact hn (by rw [e]; simp)
    · rcases List.mem_cons.1 hm with e | hm
      · exact hn (by rw [e]; simp)
      · rcases q3 b hm with hh | hh
        · exact hn (List.mem_cons_of_mem _ (List.mem_cons_of_mem _ hh))
        · have := (h4 b hb).1; omega
theorem po_Pin (h : PoA w0 K g n gp gf st w) (k : Int) : Calls Try.prog 17 #[.pointer (some ⟨gp, 0, none⟩), .int .i64 k] w fun e w' => e = .returned (.int .i64 ((plPin n st k).1)) ∧ PoA w0 K g n gp gf ((plPin n st k).2) w' ∧ KP K w w' := by
  obtain ⟨⟨F, xs, h1, h2, h3, h4⟩, h5⟩ := h
  have e0 : plOf xs st.hand st.D = st := plOf_eta h2
  refine (pl_Pin h1 k).mono ?_
  rintro e w1 ⟨rfl, hr⟩
  have hr2 := hr
  rw [e0] at hr2 ⊢
  exact ⟨rfl, PoA.step h1 h3 h4 h5 hr2⟩
theorem po_Unpin (h : PoA w0 K g n gp gf st w) (k : Int) : Calls Try.prog 11 #[.pointer (some ⟨gp, 0, none⟩), .int .i64 k] w fun e w' => e = .returned (.int .i64 ((plUnpin st k).1)) ∧ PoA w0 K g n gp gf ((plUnpin st k).2) w' ∧ KP K w w' := by
  obtain ⟨⟨F, xs, h1, h2, h3, h4⟩, h5⟩ := h
  have e0 : plOf xs st.hand st.D = st := plOf_eta h2
  refine (pl_Unpin h1 k).mono ?_
  rintro e w1 ⟨rfl, hr⟩
  have hr2 := hr
  rw [e0] at hr2 ⊢
  exact ⟨rfl, PoA.step h1 h3 h4 h5 hr2⟩
theorem po_Evict (h : PoA w0 K g n gp gf st w) (k : Int) : Calls Try.prog 12 #[.pointer (some ⟨gp, 0, none⟩), .int .i64 k] w fun e w' => e = .returned (.int .i64 ((plEvict n st k).1)) ∧ PoA w0 K g n gp gf ((plEvict n st k).2) w' ∧ KP K w w' := by
  obtain ⟨⟨F, xs, h1, h2, h3, h4⟩, h5⟩ := h
  have e0 : plOf xs st.hand st.D = st := plOf_eta h2
  refine (pl_Evict h1 k).mono ?_
  rintro e w1 ⟨rfl, hr⟩
  have hr2 := hr
  rw [e0] at hr2 ⊢
  exact ⟨rfl, PoA.step h1 h3 h4 h5 hr2⟩
theorem po_Drop (h : PoA w0 K g n gp gf st w) (k : Int) : Calls Try.prog 14 #[.pointer (some ⟨gp, 0, none⟩), .int .i64 k] w fun e w' => e = .returned (.int .i64 ((plDrop n st k).1)) ∧ PoA w0 K g n gp gf ((plDrop n st k).2) w' ∧ KP K w w' := by
  obtain ⟨⟨F, xs, h1, h2, h3, h4⟩, h5⟩ := h
  have e0 : plOf xs st.hand st.D = st := plOf_eta h2
  refine (pl_Drop h1 k).mono ?_
  rintro e w1 ⟨rfl, hr⟩
  have hr2 := hr
  rw [e0] at hr2 ⊢
  exact ⟨rfl, PoA.step h1 h3 h4 h5 hr2⟩
theorem po_Clean (h : PoA w0 K g n gp gf st w) : Calls Try.prog 18 #[.pointer (some ⟨gp, 0, none⟩)] w fun e w' => e = .returned (.int .i64 ((plClean n st).1)) ∧ PoA w0 K g n gp gf ((plClean n st).2) w' ∧ KP K w w' := by
  obtain ⟨⟨F, xs, h1, h2, h3, h4⟩, h5⟩ := h
  have e0 : plOf xs st.hand st.D = st := plOf_eta h2
  refine (pl_Clean h1).mono ?_
  rintro e w1 ⟨rfl, hr⟩
  have hr2 := hr
  rw [e0] at hr2 ⊢
  exact ⟨rfl, PoA.step h1 h3 h4 h5 hr2⟩
theorem po_Flush (h : PoA w0 K g n gp gf st w) : Calls Try.prog 21 #[.pointer (some ⟨gp, 0, none⟩)] w fun e w' => e = .returned (.int .i64 ((plFlush n st).1)) ∧ PoA w0 K g n gp gf ((plFlush n st).2) w' ∧ KP K w w' := by
  obtain ⟨⟨F, xs, h1, h2, h3, h4⟩, h5⟩ := h
  have e0 : plOf xs st.hand st.D = st := plOf_eta h2
  refine (pl_Flush h1).mono ?_
  rintro e w1 ⟨rfl, hr⟩
  have hr2 := hr
  rw [e0] at hr2 ⊢
  exact ⟨rfl, PoA.step h1 h3 h4 h5 hr2⟩
theorem po_Reset (h : PoA w0 K g n gp gf st w) : Calls Try.prog 24 #[.pointer (some ⟨gp, 0, none⟩)] w fun e w' => e = .returned (.int .i64 0) ∧ PoA w0 K g n gp gf ⟨List.replicate st.fs.length frm0, 0, st.D⟩ w' ∧ KP K w w' := by
  obtain ⟨⟨F, xs, h1, h2, h3, h4⟩, h5⟩ := h
  refine (pl_Reset h1).mono ?_
  rintro e w1 ⟨rfl, hr⟩
  rw [show xs.length = st.fs.length from by rw [← h2, List.length_map]] at hr
  exact ⟨rfl, PoA.step h1 h3 h4 h5 hr⟩
theorem po_Put (h : PoA w0 K g n gp gf st w) (k : Int) (A : Option Addr) (ca : Nat) (b : List Byte) (hl : b.length ≤ 100000000000) (hrd : Rd w A b) (hA : ∀ ad, A = some ad → ad.block ∈ K ∨ ad.block < w0.heap.size) :
    Calls Try.prog 13 #[.pointer (some ⟨gp, 0, none⟩), .int .i64 k, .slice A b.length ca] w fun e w' => e = .returned (.int .i64 (plPut n st k b).1) ∧ PoA w0 K g n gp gf (plPut n st k b).2 w' ∧ KP K w w' := by
  obtain ⟨⟨F, xs, h1, h2, h3, h4⟩, h5⟩ := h
  have e0 : plOf xs st.hand st.D = st := plOf_eta h2
  refine (pl_Put h1 k A ca b hl hrd (fun ad ha => by
    rcases hA ad ha with hh | hh
    · exact (h4 _ hh).2
    · exact fun hm => by have := h3 _ hm; omega)).mono ?_
  rintro e w1 ⟨rfl, hr⟩
  have hr2 := hr
  rw [e0] at hr2 ⊢
  exact ⟨rfl, PoA.step h1 h3 h4 h5 hr2⟩
theorem po_Get (h : PoA w0 K g n gp gf st w) (k : Int) :
    Calls Try.prog 9 #[.pointer (some ⟨gp, 0, none⟩), .int .i64 k] w fun e w' => ∃ A c, e = .returned (.tuple #[.slice A (plGetB n st k).length c, .int .i64 (plGet n st k).1.2]) ∧ Rd w' A (plGetB n st k) ∧ (∀ ad, A = some ad → w.heap.size ≤ ad.block) ∧ PoA w0 K g n gp gf (plGet n st k).2 w' ∧ KP K w w' := by
  obtain ⟨⟨F, xs, h1, h2, h3, h4⟩, h5⟩ := h
  have e0 : plOf xs st.hand st.D = st := plOf_eta h2
  refine (pl_Get h1 k).mono ?_
  rintro e w1 ⟨A, c, rfl, q1, q2, hr⟩
  have hr2 := hr
  rw [e0] at hr2 q1 ⊢
  exact ⟨A, c, rfl, q1, q2, PoA.step h1 h3 h4 h5 hr2⟩
theorem po_Frames (h : PoA w0 K g n gp gf st w) :
    Calls Try.prog 19 #[.pointer (some ⟨gp, 0, none⟩)] w fun e w' => ∃ v, e = .returned v ∧ w'.ownsRow w.heap.size 45 5 v st.fs.length (st.fs.flatMap afCs) ∧ FB w w' := by
  obtain ⟨⟨F, xs, h1, h2, h3, h4⟩, h5⟩ := h
  refine (pl_Frames h1).mono ?_
  rintro e w1 ⟨v, rfl, q1, q2⟩
  rw [h2, show xs.length = st.fs.length from by rw [← h2, List.length_map]] at q1
  exact ⟨v, rfl, q1, q2⟩
/-- The disk, looked into. -/
theorem PoA.dsk (h : PoA w0 K g n gp gf st w) : ∃ F, Dsk w F g n st.D ∧ (∀ x ∈ F, w0.heap.size ≤ x) := by
  obtain ⟨⟨F, xs, h1, h2, h3, h4⟩, h5⟩ := h
  exact ⟨F, h1.dsk, fun x hx => h3 x (List.mem_cons_of_mem _ (List.mem_cons_of_mem _ hx))⟩
theorem po_New {F : List Nat} {D : DiskSt} (h : Dsk w F g n D) (h0 : ∀ x ∈ F, w0.heap.size ≤ x) (h5 : FB w0 w) (k : Nat) (hn : 1 ≤ n / 8) (h8 : 8 ≤ k) (h256 : k ≤ 256) :
    Calls Try.prog 7 #[.pointer (some ⟨g, 0, none⟩), .int .i64 k] w fun e w' => ∃ gp gf, e = .returned (.tuple #[.pointer (some ⟨gp, 0, none⟩), .int .i64 0]) ∧ PoA w0 [] g n gp gf ⟨List.replicate k frm0, 0, D⟩ w' := by
  refine (pl_New_ok h k hn h8 h256).mono ?_
  rintro e w1 ⟨gp, gf, rfl, q1, q2, q3, q4⟩
  refine ⟨gp, gf, rfl, ⟨F, _, q1, by rw [List.map_replicate]; rfl, fun x hx => ?_, fun b hb => by cases hb⟩, h5.trans q2⟩
  have := h5.le
  rcases List.mem_cons.1 hx with rfl | hx
  · omega
  · rcases List.mem_cons.1 hx with rfl | hx
    · omega
    · exact h0 x hx
end
end Go.Proofs.Ytoidlmhebnlnbaa
