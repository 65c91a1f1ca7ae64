/- Walks and laws that the claim's last text stands on, several texts in one file: PlJ, PlK, PlL, PgO, PlN, PlO. Under the hypotheses that each theorem states. -/
import Derived.Test.YtoidlmhebnlnbaaDoorMCha
import Derived.Test.YtoidlmhebnlnbaaDoorMChb
import Derived.Test.YtoidlmhebnlnbaaDoorMChc
import Derived.Test.YtoidlmhebnlnbaaDoorMChd
import Derived.Test.YtoidlmhebnlnbaaDoorMChe
import Derived.Test.YtoidlmhebnlnbaaDoorMChf
import Derived.Test.YtoidlmhebnlnbaaDoorMChg
import Derived.Test.YtoidlmhebnlnbaaDoorMChh
import Derived.Test.YtoidlmhebnlnbaaDoorMChi
import Derived.Test.YtoidlmhebnlnbaaDoorMChj
/- pool: no pool; a page of one byte; a pool as it stands in a walk. -/
set_option linter.unusedVariables false
set_option linter.unusedSimpArgs false
namespace Go.Proofs.YtoidlmhebnlnbaaDoor
open Go.ChangeShapes Go.WideShapes Go.ChangeAt Go.RowKit
attribute [local go_sem] nb_nonneg nb_lt8 nb_lt64
set_option maxRecDepth 100000

set_option maxHeartbeats 400000 in
theorem pl_made_nil (w : World) : Calls Tryd.prog 33 #[.pointer none] w fun e w' => e = .returned (.bool false) ∧ w = w' := by
  go_enter Tryd.func33, Tryd.ntmps33
  go_wp2
  go_ret
  exact ⟨rfl, rfl⟩
set_option maxHeartbeats 400000 in
theorem pl_Get_nil (k : Int) (w : World) : Calls Tryd.prog 46 #[.pointer none, .int .i64 k] w fun e w' => e = .returned (.tuple #[.slice none 0 0, .int .i64 1]) ∧ w = w' := by
  go_enter Tryd.func46, Tryd.ntmps46
  go_wp2_with fail
  refine (pl_made_nil w).mono ?_
  rintro e w1 ⟨rfl, rfl⟩
  go_wp2
  go_ret2
  exact ⟨rfl, rfl⟩
set_option maxHeartbeats 400000 in
theorem pl_Put_nil (k : Int) (v : Value) (w : World) : Calls Tryd.prog 16 #[.pointer none, .int .i64 k, v] w fun e w' => e = .returned (.int .i64 1) ∧ w = w' := by
  go_enter Tryd.func16, Tryd.ntmps16
  go_wp2_with fail
  refine (pl_made_nil w).mono ?_
  rintro e w1 ⟨rfl, rfl⟩
  go_wp2
  go_ret
  exact ⟨rfl, rfl⟩
set_option maxHeartbeats 400000 in
theorem pl_Evict_nil (k : Int) (w : World) : Calls Tryd.prog 19 #[.pointer none, .int .i64 k] w fun e w' => e = .returned (.int .i64 1) ∧ w = w' := by
  go_enter Tryd.func19, Tryd.ntmps19
  go_wp2_with fail
  refine (pl_made_nil w).mono ?_
  rintro e w1 ⟨rfl, rfl⟩
  go_wp2
  go_ret
  exact ⟨rfl, rfl⟩
set_option maxHeartbeats 400000 in
theorem pl_Frames_nil (w : World) : Calls Tryd.prog 26 #[.pointer none] w fun e w' => e = .returned (.slice none 0 0) ∧ w = w' := by
  go_enter Tryd.func26, Tryd.ntmps26
  go_wp2_with fail
  refine (pl_made_nil w).mono ?_
  rintro e w1 ⟨rfl, rfl⟩
  go_wp2
  go_ret
  exact ⟨rfl, rfl⟩
/-- A pool of the walk's own (all it owns has come since w0), and blocks K that it does not own. -/
structure PoA (w0 : World) (K : List Nat) (g n gp gf : Nat) (st : PlSt) (w : World) : Prop where
  po : ∃ F xs, Pol w F K g n gp gf xs st.hand st.D ∧ xs.map (·.f) = st.fs ∧ (∀ x ∈ gp :: gf :: F, w0.heap.size ≤ x) ∧ (∀ b ∈ K, b < w.heap.size ∧ b ∉ gp :: gf :: F)
  fb : FB w0 w
/-- These blocks are as they were. -/
def KP (K : List Nat) (w w' : World) : Prop := w.heap.size ≤ w'.heap.size ∧ ∀ b ∈ K, w'.heap[b]? = w.heap[b]?
section
variable {w0 w w' : World} {K : List Nat} {g n gp gf : Nat} {st st' : PlSt}
theorem KP.refl (K : List Nat) (w : World) : KP K w w := ⟨Nat.le_refl _, fun _ _ => rfl⟩
theorem KP.trans {a b c : World} (h : KP K a b) (k : KP K b c) : KP K a c := ⟨Nat.le_trans h.1 k.1, fun x hx => (k.2 x hx).trans (h.2 x hx)⟩
theorem KP.rdV {A : Option Addr} {vs : List Value} (h : KP K w w') (hr : RdV w A vs) (ha : ∀ ad, A = some ad → ad.block ∈ K) : RdV w' A vs :=
  RdV.move hr fun a v e hc => (World.cell?_of_block (h.2 a.block (by
    cases A with
    | none => cases e
    | some ad => simp at e; rw [← e]; exact ha ad rfl))).trans hc
theorem PoA.kp (h : PoA w0 K g n gp gf st w) (t : FB w w') : KP K w w' := by
  obtain ⟨F, xs, h1, h2, h3, h4⟩ := h.po
  exact ⟨t.le, fun b hb => t.block b (h4 b hb).1⟩
theorem PoA.byFB (h : PoA w0 K g n gp gf st w) (t : FB w w') : PoA w0 K g n gp gf st w' ∧ KP K w w' := by
  refine ⟨?_, h.kp t⟩
  obtain ⟨⟨F, xs, h1, h2, h3, h4⟩, h5⟩ := h
  exact ⟨⟨F, xs, h1.fb t, h2, h3, fun b hb => ⟨Nat.lt_of_lt_of_le (h4 b hb).1 t.le, (h4 b hb).2⟩⟩, h5.trans t⟩
/-- A block that has just come is none of the pool's. -/
theorem PoA.add (h : PoA w0 K g n gp gf st w) (t : FB w w') (b : Nat) (hb : w.heap.size ≤ b) (hl : b < w'.heap.size) : PoA w0 (b :: K) g n gp gf st w' := by
  obtain ⟨⟨F, xs, h1, h2, h3, h4⟩, h5⟩ := h
  refine ⟨⟨F, xs, (h1.fb t).blocks (fun x hx => ?_) (fun x hx => ?_), h2, h3, fun x hx => ?_⟩, h5.trans t⟩
  · rcases List.mem_cons.1 hx with rfl | hx
    · exact hl
    · exact Nat.lt_of_lt_of_le (h4 x hx).1 t.le
  · rcases List.mem_cons.1 hx with rfl | hx
    · exact .inr (fun y hy ad ha => by have := ((h1.rd y hy).2.2.2 ad ha).1; omega)
    · exact .inl hx
  rcases List.mem_cons.1 hx with rfl | hx
  · refine ⟨hl, fun hm => ?_⟩
    have hlt := h1.lt
    rcases List.mem_cons.1 hm with e | hm
    · omega
    · rcases List.mem_cons.1 hm with e | hm
      · omega
      · have := h1.dsk.lt _ hm; omega
  · exact ⟨Nat.lt_of_lt_of_le (h4 x hx).1 t.le, (h4 x hx).2⟩
theorem PoA.fewer {K' : List Nat} (h : PoA w0 K g n gp gf st w) (hs : ∀ b ∈ K', b ∈ K) : PoA w0 K' g n gp gf st w := by
  obtain ⟨⟨F, xs, h1, h2, h3, h4⟩, h5⟩ := h
  exact ⟨⟨F, xs, h1.blocks (fun b hb => (h4 b (hs b hb)).1) (fun b hb => .inl (hs b hb)), h2, h3, fun b hb => h4 b (hs b hb)⟩, h5⟩
/-- A small block of K is written: the pool is as it was (a page's bytes do not lie there). -/
theorem PoA.set (h : PoA w0 K g n gp gf st w) (b i : Nat) (v : Value) (hb : b ∈ K) (h0 : w0.heap.size ≤ b) {cs : Array Value} {t : TypeId} {fr : Nat × Nat} (hr : w.heap[b]? = some (.cells cs t fr)) (hs : cs.size < 4096) (hf : ∀ f ∈ st.fs, f.b = [] ∨ f.b.length = 4096) : PoA w0 K g n gp gf st (w.setCell ⟨b, i, none⟩ v) := by
  obtain ⟨⟨F, xs, h1, h2, h3, h4⟩, h5⟩ := h
  have kb := TB.set (g := b) w i v
  have ks := TS.tb (F := [b]) kb (by simp)
  have hn := (h4 b hb).2
  have hnp : gp ≠ b := fun e => hn (by rw [e]; simp)
  have hnf : gf ≠ b := fun e => hn (by rw [e]; simp)
  have hnF : b ∉ F := fun e => hn (List.mem_cons_of_mem _ (List.mem_cons_of_mem _ e))
  refine ⟨⟨F, xs, ⟨h1.dsk.ts ks (fun y hy hm => by simp at hy; subst hy; exact hnF hm), (ks.block _ h1.lt.1 (by simpa using hnp)).trans h1.prow, (ks.block _ h1.lt.2 (by simpa using hnf)).trans h1.frow, fun x hx => ?_, h1.bd, h1.ne, h1.hl, h1.n256, fun x hx => Nat.lt_of_lt_of_le (h4 x hx).1 kb.le⟩, h2, h3, fun x hx => ⟨Nat.lt_of_lt_of_le (h4 x hx).1 kb.le, (h4 x hx).2⟩⟩, h5.tb kb h0⟩
  obtain ⟨q1, q2, q3, q4⟩ := h1.rd x hx
  refine ⟨?_, q2, q3, fun ad ha => ⟨Nat.lt_of_lt_of_le (q4 ad ha).1 ks.size, (q4 ad ha).2⟩⟩
  rcases hf x.f (by rw [← h2]; exact List.mem_map_of_mem hx) with e | e
  · rw [e]; exact Rd.nil _ _
  · refine ks.rd q1 (fun ad ha hm => ?_)
    have hm2 : ad.block = b := by simpa using hm
    obtain ⟨b1, o, e1, hc⟩ := q1 4095 (by rw [vbs_length, e]; omega)
    rw [ha] at e1
    cases e1
    have hm3 : b1 = b := hm2
    rw [cell_of_row w b1 (o + 4095) cs t fr (by rw [hm3]; exact hr), Array.getElem?_eq_none (by omega)] at hc
    cases hc
theorem PoA.step {F : List Nat} {xs : List FrX} (h1 : Pol w F K g n gp gf xs st.hand st.D) (h3 : ∀ x ∈ gp :: gf :: F, w0.heap.size ≤ x) (h4 : ∀ b ∈ K, b < w.heap.size ∧ b ∉ gp :: gf :: F) (h5 : FB w0 w) (h : PolR w F K g n gp gf st' w') : PoA w0 K g n gp gf st' w' ∧ KP K w w' := by
  obtain ⟨F', ys, q1, q2, q3, q4⟩ := h
  refine ⟨⟨⟨F', ys, q1, q2, fun x hx => ?_, fun b hb => ⟨Nat.lt_of_lt_of_le (h4 b hb).1 q4.size, fun hm => ?_⟩⟩, h5.ts q4 h3⟩, q4.size, fun b hb => q4.block b (h4 b hb).1 (h4 b hb).2⟩
  · rcases List.mem_cons.1 hx with rfl | hx
    · exact h3 _ (by simp)
    · rcases List.mem_cons.1 hx with rfl | hx
      · exact h3 _ (by simp)
      · rcases q3 x hx with hh | hh
        · exact h3 x (List.mem_cons_of_mem _ (List.mem_cons_of_mem _ hh))
        · exact Nat.le_trans h5.le hh
  · have hn := (h4 b hb).2
    rcases List.mem_cons.1 hm with e | hm
    · exact hn (by rw [e]; simp)
    · rcases List.mem_cons.1 hm with e | hm
      · exact hn (by rw [e]; simp)
      · rcases q3 b hm with hh | hh
        · exact hn (List.mem_cons_of_mem _ (List.mem_cons_of_mem _ hh))
        · have := (h4 b hb).1; omega
theorem po_Evict (h : PoA w0 K g n gp gf st w) (k : Int) : Calls Tryd.prog 19 #[.pointer (some ⟨gp, 0, none⟩), .int .i64 k] w fun e w' => e = .returned (.int .i64 ((plEvict n st k).1)) ∧ PoA w0 K g n gp gf ((plEvict n st k).2) w' ∧ KP K w w' := by
  obtain ⟨⟨F, xs, h1, h2, h3, h4⟩, h5⟩ := h
  have e0 : plOf xs st.hand st.D = st := plOf_eta h2
  refine (pl_Evict h1 k).mono ?_
  rintro e w1 ⟨rfl, hr⟩
  have hr2 := hr
  rw [e0] at hr2 ⊢
  exact ⟨rfl, PoA.step h1 h3 h4 h5 hr2⟩
theorem po_Put (h : PoA w0 K g n gp gf st w) (k : Int) (A : Option Addr) (ca : Nat) (b : List Byte) (hl : b.length ≤ 100000000000) (hrd : Rd w A b) (hA : ∀ ad, A = some ad → ad.block ∈ K ∨ ad.block < w0.heap.size) :
    Calls Tryd.prog 16 #[.pointer (some ⟨gp, 0, none⟩), .int .i64 k, .slice A b.length ca] w fun e w' => e = .returned (.int .i64 (plPut n st k b).1) ∧ PoA w0 K g n gp gf (plPut n st k b).2 w' ∧ KP K w w' := by
  obtain ⟨⟨F, xs, h1, h2, h3, h4⟩, h5⟩ := h
  have e0 : plOf xs st.hand st.D = st := plOf_eta h2
  refine (pl_Put h1 k A ca b hl hrd (fun ad ha => by
    rcases hA ad ha with hh | hh
    · exact (h4 _ hh).2
    · exact fun hm => by have := h3 _ hm; omega)).mono ?_
  rintro e w1 ⟨rfl, hr⟩
  have hr2 := hr
  rw [e0] at hr2 ⊢
  exact ⟨rfl, PoA.step h1 h3 h4 h5 hr2⟩
theorem po_Get (h : PoA w0 K g n gp gf st w) (k : Int) :
    Calls Tryd.prog 46 #[.pointer (some ⟨gp, 0, none⟩), .int .i64 k] w fun e w' => ∃ A c, e = .returned (.tuple #[.slice A (plGetB n st k).length c, .int .i64 (plGet n st k).1.2]) ∧ Rd w' A (plGetB n st k) ∧ (∀ ad, A = some ad → w.heap.size ≤ ad.block) ∧ PoA w0 K g n gp gf (plGet n st k).2 w' ∧ KP K w w' := by
  obtain ⟨⟨F, xs, h1, h2, h3, h4⟩, h5⟩ := h
  have e0 : plOf xs st.hand st.D = st := plOf_eta h2
  refine (pl_Get h1 k).mono ?_
  rintro e w1 ⟨A, c, rfl, q1, q2, hr⟩
  have hr2 := hr
  rw [e0] at hr2 q1 ⊢
  exact ⟨A, c, rfl, q1, q2, PoA.step h1 h3 h4 h5 hr2⟩
theorem po_GetC (h : PoA w0 K g n gp gf st w) (k : Int) :
    Calls Tryd.prog 46 #[.pointer (some ⟨gp, 0, none⟩), .int .i64 k] w fun e w' => ∃ A c, e = .returned (.tuple #[.slice A (plGetB n st k).length c, .int .i64 (plGet n st k).1.2]) ∧ Rd w' A (plGetB n st k) ∧ (∀ ad, A = some ad → w.heap.size ≤ ad.block) ∧ PoA w0 K g n gp gf (plGet n st k).2 w' ∧ KP K w w' ∧ (plGetB n st k).length ≤ c ∧ c ≤ maxLen := by
  obtain ⟨⟨F, xs, h1, h2, h3, h4⟩, h5⟩ := h
  have e0 : plOf xs st.hand st.D = st := plOf_eta h2
  refine (pl_GetC h1 k).mono ?_
  rintro e w1 ⟨A, c, rfl, q1, q2, hr, q5, q6⟩
  have hr2 := hr
  rw [e0] at hr2 q1 q5 ⊢
  have hs := PoA.step h1 h3 h4 h5 hr2
  exact ⟨A, c, rfl, q1, q2, hs.1, hs.2, q5, q6⟩
theorem po_Frames (h : PoA w0 K g n gp gf st w) :
    Calls Tryd.prog 26 #[.pointer (some ⟨gp, 0, none⟩)] w fun e w' => ∃ v, e = .returned v ∧ w'.ownsRow w.heap.size 83 5 v st.fs.length (st.fs.flatMap afCs) ∧ FB w w' := by
  obtain ⟨⟨F, xs, h1, h2, h3, h4⟩, h5⟩ := h
  refine (pl_Frames h1).mono ?_
  rintro e w1 ⟨v, rfl, q1, q2⟩
  rw [h2, show xs.length = st.fs.length from by rw [← h2, List.length_map]] at q1
  exact ⟨v, rfl, q1, q2⟩
/-- The disk, looked into. -/
theorem PoA.dsk (h : PoA w0 K g n gp gf st w) : ∃ F, Dsk w F g n st.D ∧ (∀ x ∈ F, w0.heap.size ≤ x) := by
  obtain ⟨⟨F, xs, h1, h2, h3, h4⟩, h5⟩ := h
  exact ⟨F, h1.dsk, fun x hx => h3 x (List.mem_cons_of_mem _ (List.mem_cons_of_mem _ hx))⟩
theorem po_New {F : List Nat} {D : DiskSt} (h : Dsk w F g n D) (h0 : ∀ x ∈ F, w0.heap.size ≤ x) (h5 : FB w0 w) (k : Nat) (hn : 1 ≤ n / 8) (h8 : 8 ≤ k) (h256 : k ≤ 256) :
    Calls Tryd.prog 10 #[.pointer (some ⟨g, 0, none⟩), .int .i64 k] w fun e w' => ∃ gp gf, e = .returned (.tuple #[.pointer (some ⟨gp, 0, none⟩), .int .i64 0]) ∧ PoA w0 [] g n gp gf ⟨List.replicate k frm0, 0, D⟩ w' := by
  refine (pl_New_ok h k hn h8 h256).mono ?_
  rintro e w1 ⟨gp, gf, rfl, q1, q2, q3, q4⟩
  refine ⟨gp, gf, rfl, ⟨F, _, q1, by rw [List.map_replicate]; rfl, fun x hx => ?_, fun b hb => by cases hb⟩, h5.trans q2⟩
  have := h5.le
  rcases List.mem_cons.1 hx with rfl | hx
  · omega
  · rcases List.mem_cons.1 hx with rfl | hx
    · omega
    · exact h0 x hx
end
end Go.Proofs.YtoidlmhebnlnbaaDoor
/- pool, plain: the states of lives. -/
set_option linter.unusedVariables false
set_option linter.unusedSimpArgs false
namespace Go.Proofs.YtoidlmhebnlnbaaDoor
open Go.ChangeShapes Go.WideShapes Go.ChangeAt Go.RowKit
set_option maxRecDepth 100000

def lvRow (j : Nat) : List Byte := List.replicate 4096 (BitVec.ofNat 8 j)
def lvD0 : DiskSt := ⟨List.replicate (512 * 96) 0#8, [], none⟩
def lvD1 : DiskSt := (sdSave lvD0 96 0 (lvRow 0)).2
def lvS (j : Nat) : PlSt :=
  if j ≤ 8 then ⟨[0, 1, 2, 3, 4, 5, 6, 7].map (fun i : Nat => if i < j then ⟨true, i, 0, true, true, lvRow i⟩ else frm0), 0, lvD0⟩
  else ⟨⟨true, 8, 0, true, true, lvRow 8⟩ :: [1, 2, 3, 4, 5, 6, 7].map (fun i : Nat => ⟨true, i, 0, true, false, lvRow i⟩), 1, lvD1⟩
def lvU (j : Nat) : PlSt :=
  ⟨⟨true, 8, if 8 ≤ j then 1 else 0, true, true, lvRow 8⟩ :: [1, 2, 3, 4, 5, 6, 7].map (fun i : Nat => ⟨true, i, if i ≤ j then 1 else 0, true, decide (i ≤ j), lvRow i⟩), 1, lvD1⟩
theorem lv_put0 : plPut 96 (lvS 0) ((0 : Nat) : Int) (lvRow 0) = (0, lvS (0 + 1)) := by kernel_rfl
theorem lv_put1 : plPut 96 (lvS 1) ((1 : Nat) : Int) (lvRow 1) = (0, lvS (1 + 1)) := by kernel_rfl
theorem lv_put2 : plPut 96 (lvS 2) ((2 : Nat) : Int) (lvRow 2) = (0, lvS (2 + 1)) := by kernel_rfl
theorem lv_put3 : plPut 96 (lvS 3) ((3 : Nat) : Int) (lvRow 3) = (0, lvS (3 + 1)) := by kernel_rfl
theorem lv_put4 : plPut 96 (lvS 4) ((4 : Nat) : Int) (lvRow 4) = (0, lvS (4 + 1)) := by kernel_rfl
theorem lv_put5 : plPut 96 (lvS 5) ((5 : Nat) : Int) (lvRow 5) = (0, lvS (5 + 1)) := by kernel_rfl
theorem lv_put6 : plPut 96 (lvS 6) ((6 : Nat) : Int) (lvRow 6) = (0, lvS (6 + 1)) := by kernel_rfl
theorem lv_put7 : plPut 96 (lvS 7) ((7 : Nat) : Int) (lvRow 7) = (0, lvS (7 + 1)) := by kernel_rfl
theorem lv_put8 : plPut 96 (lvS 8) ((8 : Nat) : Int) (lvRow 8) = (0, lvS (8 + 1)) := by kernel_rfl
theorem lv_pin1 : plPin 96 (lvU (1 - 1)) ((1 : Nat) : Int) = (0, lvU 1) := by kernel_rfl
theorem lv_pin2 : plPin 96 (lvU (2 - 1)) ((2 : Nat) : Int) = (0, lvU 2) := by kernel_rfl
theorem lv_pin3 : plPin 96 (lvU (3 - 1)) ((3 : Nat) : Int) = (0, lvU 3) := by kernel_rfl
theorem lv_pin4 : plPin 96 (lvU (4 - 1)) ((4 : Nat) : Int) = (0, lvU 4) := by kernel_rfl
theorem lv_pin5 : plPin 96 (lvU (5 - 1)) ((5 : Nat) : Int) = (0, lvU 5) := by kernel_rfl
theorem lv_pin6 : plPin 96 (lvU (6 - 1)) ((6 : Nat) : Int) = (0, lvU 6) := by kernel_rfl
theorem lv_pin7 : plPin 96 (lvU (7 - 1)) ((7 : Nat) : Int) = (0, lvU 7) := by kernel_rfl
theorem lv_pin8 : plPin 96 (lvU (8 - 1)) ((8 : Nat) : Int) = (0, lvU 8) := by kernel_rfl
theorem lv_put (j : Nat) (hj : j < 9) : plPut 96 (lvS j) (j : Int) (lvRow j) = (0, lvS (j + 1)) := by
  have : j = 0 ∨ j = 1 ∨ j = 2 ∨ j = 3 ∨ j = 4 ∨ j = 5 ∨ j = 6 ∨ j = 7 ∨ j = 8 := by omega
  rcases this with rfl | rfl | rfl | rfl | rfl | rfl | rfl | rfl | rfl
  · exact lv_put0
  · exact lv_put1
  · exact lv_put2
  · exact lv_put3
  · exact lv_put4
  · exact lv_put5
  · exact lv_put6
  · exact lv_put7
  · exact lv_put8
theorem lv_pin (j : Nat) (h0 : 1 ≤ j) (hj : j < 9) : plPin 96 (lvU (j - 1)) (j : Int) = (0, lvU j) := by
  have : j = 1 ∨ j = 2 ∨ j = 3 ∨ j = 4 ∨ j = 5 ∨ j = 6 ∨ j = 7 ∨ j = 8 := by omega
  rcases this with rfl | rfl | rfl | rfl | rfl | rfl | rfl | rfl
  · exact lv_pin1
  · exact lv_pin2
  · exact lv_pin3
  · exact lv_pin4
  · exact lv_pin5
  · exact lv_pin6
  · exact lv_pin7
  · exact lv_pin8
theorem lv_U0 : lvS 9 = lvU 0 := by kernel_rfl
theorem lv_M : lvD1.M.length = 8 := by kernel_rfl
theorem lv_get : (plGet 96 (lvU 8) 9).1.2 = 9 := by kernel_rfl
theorem lv_D : lvS 0 = ⟨List.replicate 8 frm0, 0, ⟨List.replicate (512 * 96) 0#8, [], none⟩⟩ := by kernel_rfl
end Go.Proofs.YtoidlmhebnlnbaaDoor
/- pool: the walk through lives. -/
set_option linter.unusedVariables false
set_option linter.unusedSimpArgs false
namespace Go.Proofs.YtoidlmhebnlnbaaDoor
open Go.ChangeShapes Go.WideShapes Go.ChangeAt Go.RowKit
attribute [local go_sem] nb_nonneg nb_lt8 nb_lt64
set_option maxRecDepth 100000

theorem owns_form {w : World} {base : Nat} {e : TypeId} {size : Nat} {v : Value} {n : Nat} {xs : List Value} (h : w.ownsRow base e size v n xs) (hn : 0 < n) :
    ∃ gl cap, v = .slice (some ⟨gl, 0, none⟩) n cap ∧ base ≤ gl ∧ gl < w.heap.size ∧ ∀ j, j < n * size → w.cell? ⟨gl, j, none⟩ = xs[j]? := by
  have h0 := h
  rcases h.2 with ⟨_, h2⟩ | ⟨g, cap, cur, rfl, hb, hg, _⟩
  · omega
  · exact ⟨g, cap, rfl, hb, (Array.getElem?_eq_some_iff.1 hg).1, fun j hj => World.ownsRow.cellAt h0 j hj⟩
theorem afCs_get (fs : List Frm) (i : Nat) (h : i < fs.length) (j : Nat) (hj : j < 5) : (fs.flatMap afCs)[i * 5 + j]? = (afCs fs[i])[j]? := by
  have e : fs = fs.take i ++ (fs[i] :: fs.drop (i + 1)) := by rw [List.getElem_cons_drop, List.take_append_drop]
  have e2 : fs.flatMap afCs = (fs.take i).flatMap afCs ++ (afCs fs[i] ++ (fs.drop (i + 1)).flatMap afCs) := by
    calc fs.flatMap afCs = (fs.take i ++ (fs[i] :: fs.drop (i + 1))).flatMap afCs := by rw [← e]
      _ = _ := by rw [List.flatMap_append, List.flatMap_cons]
  have hl : ((fs.take i).flatMap afCs).length = i * 5 := by rw [afCs_len, List.length_take]; omega
  rw [e2, List.getElem?_append_right (by omega), hl, List.getElem?_append_left (by simp [afCs]; omega)]
  congr 1
  omega
/-- A frame of those that Frames returned: Is, Page, Pins. -/
theorem owns_frame {w : World} {base : Nat} {gl cap n : Nat} {fs : List Frm} (hc : ∀ j, j < n * 5 → w.cell? ⟨gl, j, none⟩ = (fs.flatMap afCs)[j]?) (hn : n = fs.length) (i : Nat) (hi : i < n) :
    w.cell? ⟨gl, i * 5, none⟩ = some (.bool (fs[i]'(by omega)).is) ∧ w.cell? ⟨gl, i * 5 + 1, none⟩ = some (.int .i64 (fs[i]'(by omega)).pg) ∧ w.cell? ⟨gl, i * 5 + 2, none⟩ = some (.int .i64 (fs[i]'(by omega)).pins) := by
  subst hn
  have q := fun (j : Nat) (hj : j < 5) => show w.cell? ⟨gl, i * 5 + j, none⟩ = (afCs fs[i])[j]? from by rw [hc _ (by omega), afCs_get fs i hi j hj]
  exact ⟨q 0 (by omega), q 1 (by omega), q 2 (by omega)⟩
theorem lv_fs : ((lvS 9).fs.flatMap afCs)[1]? = some (.int .i64 8) ∧ (lvS 9).fs.length = 8 := by
  constructor <;> rfl
end Go.Proofs.YtoidlmhebnlnbaaDoor
/- page over no disk; what Load and Save do where no fault is set. -/
set_option linter.unusedVariables false
set_option linter.unusedSimpArgs false
namespace Go.Proofs.YtoidlmhebnlnbaaDoor
open Go.ChangeShapes Go.WideShapes Go.ChangeAt Go.RowKit Go.MapKept

set_option maxRecDepth 100000 in
theorem pn_made (w : World) : Calls Tryd.prog 53 #[.pointer none] w fun e w' => e = .returned (.bool false) ∧ w = w' := by
  go_enter Tryd.func53, Tryd.ntmps53
  go_wp2
  go_ret
  exact ⟨rfl, rfl⟩
set_option maxRecDepth 100000 in
theorem pn_Sectors (w : World) : Calls Tryd.prog 29 #[.pointer none] w fun e w' => e = .returned (.int .i64 0) ∧ w = w' := by
  go_enter Tryd.func29, Tryd.ntmps29
  go_wp2_with fail
  refine (pn_made _).mono ?_
  rintro e w1 ⟨rfl, rfl⟩
  go_wp2
  go_ret
  exact ⟨rfl, rfl⟩
set_option maxRecDepth 100000 in
theorem pn_Pages (w : World) : Calls Tryd.prog 30 #[.pointer none] w fun e w' => e = .returned (.int .i64 0) ∧ w = w' := by
  go_enter Tryd.func30, Tryd.ntmps30
  go_wp2_with fail
  refine (pn_Sectors _).mono ?_
  rintro e w1 ⟨rfl, rfl⟩
  go_wp2
  go_ret
  exact ⟨rfl, rfl⟩
set_option maxRecDepth 100000 in
theorem pn_right (k : Int) (w : World) : Calls Tryd.prog 73 #[.pointer none, .int .i64 k] w fun e w' => e = .returned (.int .i64 1) ∧ w = w' := by
  go_enter Tryd.func73, Tryd.ntmps73
  go_wp2
  go_ret
  exact ⟨rfl, rfl⟩
set_option maxRecDepth 100000 in
theorem pn_Load (k : Int) (w : World) : Calls Tryd.prog 78 #[.pointer none, .int .i64 k] w fun e w' => e = .returned (.tuple #[.slice none 0 0, .int .i64 1]) ∧ w = w' := by
  go_enter Tryd.func78, Tryd.ntmps78
  go_wp2_with fail
  refine (pn_right k _).mono ?_
  rintro e w1 ⟨rfl, rfl⟩
  go_wp2
  go_ret2
  exact ⟨rfl, rfl⟩
set_option maxRecDepth 100000 in
theorem pn_Save (k : Int) (v : Value) (w : World) : Calls Tryd.prog 56 #[.pointer none, .int .i64 k, v] w fun e w' => e = .returned (.int .i64 1) ∧ FB w w' := by
  go_enter_defers Tryd.func56, Tryd.ntmps56
  go_wp2_with fail
  refine (pn_right k _).mono ?_
  rintro e w1 ⟨rfl, rfl⟩
  go_wp2
  refine ⟨.int .i64 1, ?_, rfl, (FB.refl w).alloc _⟩
  simp [results, Tryd.results56, go_sem]
/-! ### no fault -/
/-- Sector s, as it is read. -/
def secV (D : DiskSt) (s : Nat) : List Byte := (cget D.M (s : Int)).getD (sec D.b s)
def catV (V : Nat → List Byte) : Nat → Nat → List Byte
  | 0, _ => []
  | r + 1, i => V i ++ catV V r (i + 1)
theorem ldF_ok {D : DiskSt} {n k : Nat} (hf : D.fuse = none) : ∀ (r i : Nat) (out : List Byte), k * 8 + i + r ≤ n → ldF n (k : Int) r i out D = (out ++ catV (secV D) r (k * 8 + i), 0, D) := by
  intro r
  induction r with
  | zero => intro i out _; simp [ldF, catV]
  | succ r ih =>
    intro i out h
    have e : (k : Int) * 8 + (i : Int) = ((k * 8 + i : Nat) : Int) := by omega
    rw [ldF, e, sdRead_ok (by omega) (by omega) hf, if_pos rfl]
    show ldF n (k : Int) r (i + 1) _ D = _
    rw [ih (i + 1) _ (by omega), catV, List.append_assoc]
    rfl
theorem sdLoad_ok {D : DiskSt} {n k : Nat} (hf : D.fuse = none) (hk : k < n / 8) : sdLoad D n (k : Int) = (catV (secV D) 8 (k * 8), 0, D) := by
  unfold sdLoad
  rw [if_neg (by unfold pgOut; omega), ldF_ok hf 8 0 [] (by omega)]
  simp
theorem catV_congr {V V' : Nat → List Byte} : ∀ (r i i' : Nat), (∀ j, j < r → V (i + j) = V' (i' + j)) → catV V r i = catV V' r i' := by
  intro r
  induction r with
  | zero => intro i i' _; rfl
  | succ r ih =>
    intro i i' h
    rw [catV, catV, show V i = V' i' from h 0 (by omega), ih (i + 1) (i' + 1) (fun j hj => by have := h (j + 1) (by omega); rw [show i + (j + 1) = i + 1 + j by omega, show i' + (j + 1) = i' + 1 + j by omega] at this; exact this)]
theorem catV_sec (b : List Byte) : ∀ (r i : Nat), catV (sec b) r i = (b.drop (512 * i)).take (512 * r) := by
  intro r
  induction r with
  | zero => intro i; simp [catV]
  | succ r ih =>
    intro i
    rw [catV, ih, sec, show 512 * (i + 1) = 512 * i + 512 by omega, ← List.drop_drop, show 512 * (r + 1) = 512 + 512 * r by omega, List.take_add]
theorem catV_whole {xs : List Byte} (h : xs.length = 4096) : catV (sec xs) 8 0 = xs := by
  rw [catV_sec, Nat.mul_zero, List.drop_zero, List.take_of_length_le (by omega)]
theorem cget_put (M : List (Int × List Byte)) (k k' : Int) (x : List Byte) : cget (cput M k x) k' = if k' = k then some x else cget M k' := by
  induction M with
  | nil =>
    by_cases h : k' = k
    · subst h; simp [cput, cget]
    · rw [if_neg h]; simp [cput, cget]; omega
  | cons p M ih =>
    obtain ⟨a, v⟩ := p
    rw [cput]
    by_cases h : a = k
    · subst h
      rw [if_pos rfl, cget, cget]
      by_cases h2 : k' = a
      · rw [if_pos h2.symm, if_pos h2]
      · rw [if_neg (fun e => h2 e.symm), if_neg h2, if_neg (fun e => h2 e.symm)]
    · rw [if_neg h, cget, cget, ih]
      by_cases h2 : a = k'
      · rw [if_pos h2, if_pos h2, if_neg (by omega)]
      · rw [if_neg h2, if_neg h2]
/-- A page's sectors laid over. -/
def layV (V : Nat → List Byte) (k : Nat) (xs : List Byte) (m : Nat) : Nat → List Byte := fun s => if k * 8 ≤ s ∧ s < k * 8 + m then sec xs (s - k * 8) else V s
theorem svF_ok {n k : Nat} {xs : List Byte} (hl : xs.length = 4096) : ∀ (r i : Nat) (D : DiskSt), D.fuse = none → i + r = 8 → k * 8 + 8 ≤ n → ∃ M, svF n (k : Int) xs r i D = (0, ⟨D.b, M, none⟩) ∧ ∀ s, secV ⟨D.b, M, none⟩ s = if k * 8 + i ≤ s ∧ s < k * 8 + 8 then sec xs (s - k * 8) else secV D s := by
  intro r
  induction r with
  | zero =>
    intro i D hf hi hn
    refine ⟨D.M, ?_, fun s => ?_⟩
    · rw [svF, ← hf]
    · rw [if_neg (by omega)]; rfl
  | succ r ih =>
    intro i D hf hi hn
    have e : (k : Int) * 8 + (i : Int) = ((k * 8 + i : Nat) : Int) := by omega
    have hsl : (sec xs i).length = 512 := sec_len (n := 8) hl (by omega)
    rw [svF, e, sdWrite_ok (by omega) (by omega) hsl hf, if_pos rfl]
    obtain ⟨M, h1, h2⟩ := ih (i + 1) ⟨D.b, cput D.M ((k * 8 + i : Nat) : Int) (sec xs i), none⟩ rfl (by omega) hn
    refine ⟨M, h1, fun s => ?_⟩
    rw [h2 s]
    by_cases hs : k * 8 + (i + 1) ≤ s ∧ s < k * 8 + 8
    · rw [if_pos hs, if_pos (by omega)]
    · rw [if_neg hs]
      unfold secV
      rw [cget_put]
      by_cases hs2 : s = k * 8 + i
      · subst hs2
        rw [if_pos rfl, if_pos (by omega), show k * 8 + i - k * 8 = i by omega]
        rfl
      · rw [if_neg (by omega), if_neg (by omega)]
theorem sdSave_ok {D : DiskSt} {n k : Nat} {xs : List Byte} (hf : D.fuse = none) (hk : k < n / 8) (hl : xs.length = 4096) :
    ∃ M, sdSave D n (k : Int) xs = (0, ⟨D.b, M, none⟩) ∧ ∀ s, secV ⟨D.b, M, none⟩ s = layV (secV D) k xs 8 s := by
  unfold sdSave
  rw [if_neg (by unfold pgOut; rw [hl]; omega)]
  exact svF_ok hl 8 0 D hf rfl (by omega)
theorem sdSave_bad {D : DiskSt} {n : Nat} {k : Int} {xs : List Byte} (hl : xs.length ≠ 4096) : sdSave D n k xs = (2, D) := by
  unfold sdSave; rw [if_pos (.inr hl)]
theorem layV_same (V : Nat → List Byte) {k : Nat} {xs : List Byte} (h : xs.length = 4096) : catV (layV V k xs 8) 8 (k * 8) = xs :=
  (catV_congr (V' := sec xs) 8 (k * 8) 0 (fun j hj => by unfold layV; rw [if_pos (by omega), show k * 8 + j - k * 8 = 0 + j by omega])).trans (catV_whole h)
theorem layV_other (V : Nat → List Byte) {k k' : Nat} (xs : List Byte) (h : k' ≠ k) : catV (layV V k xs 8) 8 (k' * 8) = catV V 8 (k' * 8) :=
  catV_congr 8 _ _ (fun j hj => by unfold layV; rw [if_neg (by omega)])
theorem sdFlush_ok {D : DiskSt} (hf : D.fuse = none) : sdFlush D = (0, ⟨flushB D.M D.b, [], none⟩) := by
  unfold sdFlush; rw [hf]; rfl
theorem secV_clean (b : List Byte) (f : Option Int) (s : Nat) : secV ⟨b, [], f⟩ s = sec b s := rfl
theorem secV_flush {D : DiskSt} {n : Nat} (h : D.ok n) (hn : (D.M.map (·.1)).Nodup) (f : Option Int) {s : Nat} (hs : s < n) : secV ⟨flushB D.M D.b, [], f⟩ s = secV D s := by
  rw [secV_clean, sec_flushB h.len hs h.M hn]; rfl
/-- A page's bytes in the image. -/
theorem catV_image (b : List Byte) (f : Option Int) (k : Nat) : catV (secV ⟨b, [], f⟩) 8 (k * 8) = (b.drop (4096 * k)).take 4096 := by
  refine (catV_congr (V' := sec b) 8 (k * 8) (k * 8) (fun j _ => rfl)).trans ?_
  rw [catV_sec, show 512 * (k * 8) = 4096 * k by omega]
end Go.Proofs.YtoidlmhebnlnbaaDoor
/- pool, plain: what its state tells of each page; what each method leaves of it, where no fault is set. -/
set_option linter.unusedVariables false
set_option linter.unusedSimpArgs false
namespace Go.Proofs.YtoidlmhebnlnbaaDoor
open Go.ChangeShapes Go.WideShapes Go.ChangeAt Go.RowKit
set_option maxRecDepth 100000

def pgAt (D : DiskSt) (k : Nat) : List Byte := catV (secV D) 8 (k * 8)
theorem save_pg {D : DiskSt} {n k : Nat} {xs : List Byte} (hf : D.fuse = none) (hk : k < n / 8) (hl : xs.length = 4096) :
    ∃ M, sdSave D n (k : Int) xs = (0, ⟨D.b, M, none⟩) ∧ ∀ k', pgAt ⟨D.b, M, none⟩ k' = if k' = k then xs else pgAt D k' := by
  obtain ⟨M, h1, h2⟩ := sdSave_ok (D := D) (n := n) (k := k) (xs := xs) hf hk hl
  refine ⟨M, h1, fun k' => ?_⟩
  unfold pgAt
  rw [show secV ⟨D.b, M, none⟩ = layV (secV D) k xs 8 from funext h2]
  split
  · rename_i e; subst e; exact layV_same _ hl
  · rename_i e; exact layV_other _ xs e
theorem load_pg {D : DiskSt} {n k : Nat} (hf : D.fuse = none) (hk : k < n / 8) : sdLoad D n (k : Int) = (pgAt D k, 0, D) := sdLoad_ok hf hk
theorem fr_set (fs : List Frm) (i : Nat) (x : Frm) (hi : i < fs.length) (j : Nat) : (fs.set i x).getD j frm0 = if j = i then x else fs.getD j frm0 := by
  rw [List.getD_eq_getElem?_getD, List.getD_eq_getElem?_getD, List.getElem?_set]
  by_cases e : i = j
  · subst e; rw [if_pos rfl, if_pos hi, if_pos rfl]; rfl
  · rw [if_neg e, if_neg (fun h => e h.symm)]
theorem fr_out {fs : List Frm} {i : Nat} (h : (fs.getD i frm0).is = true) : i < fs.length := by
  rcases Nat.lt_or_ge i fs.length with hh | hh
  · exact hh
  · rw [List.getD_eq_getElem?_getD, List.getElem?_eq_none hh] at h; cases h
structure PlInv (n : Nat) (st : PlSt) : Prop where
  fuse : st.D.fuse = none
  hand : st.hand < st.fs.length
  off : ∀ i, (st.fs.getD i frm0).is = false → st.fs.getD i frm0 = frm0
  pg : ∀ i, (st.fs.getD i frm0).is = true → ∃ k : Nat, (st.fs.getD i frm0).pg = k ∧ k < n / 8
  len : ∀ i, (st.fs.getD i frm0).is = true → (st.fs.getD i frm0).b.length = 4096
  pins : ∀ i, 0 ≤ (st.fs.getD i frm0).pins
  uniq : ∀ i j, (st.fs.getD i frm0).is = true → (st.fs.getD j frm0).is = true → (st.fs.getD i frm0).pg = (st.fs.getD j frm0).pg → i = j
  cln : ∀ i (k : Nat), (st.fs.getD i frm0).is = true → (st.fs.getD i frm0).dirty = false → (st.fs.getD i frm0).pg = k → (st.fs.getD i frm0).b = pgAt st.D k
  plen : ∀ k : Nat, k < n / 8 → (pgAt st.D k).length = 4096
def plV (st : PlSt) (k : Nat) : List Byte := match plFind st.fs k with | some i => (st.fs.getD i frm0).b | none => pgAt st.D k
def plN (st : PlSt) (k : Nat) : Int := match plFind st.fs k with | some i => (st.fs.getD i frm0).pins | none => 0
theorem find_some {fs : List Frm} {k : Int} {i : Nat} (h : plFind fs k = some i) : i < fs.length ∧ (fs.getD i frm0).is = true ∧ (fs.getD i frm0).pg = k := by
  obtain ⟨h1, h2⟩ := plFind_lt h
  unfold plHas at h2
  simp only [Bool.and_eq_true, decide_eq_true_eq] at h2
  exact ⟨h1, h2⟩
theorem find_none {fs : List Frm} {k : Int} (h : plFind fs k = none) (i : Nat) (hi : (fs.getD i frm0).is = true) : (fs.getD i frm0).pg ≠ k := by
  have hlt := fr_out hi
  have := plIx_none h (fs.getD i frm0) (by rw [List.getD_eq_getElem?_getD, List.getElem?_eq_getElem hlt]; exact List.getElem_mem hlt)
  unfold plHas at this
  rw [hi] at this
  simpa using this
section
variable {n : Nat} {st : PlSt}
theorem PlInv.hit (h : PlInv n st) {i : Nat} {k : Int} (hi : (st.fs.getD i frm0).is = true) (hk : (st.fs.getD i frm0).pg = k) : plFind st.fs k = some i := by
  cases hf : plFind st.fs k with
  | none => exact absurd hk (find_none hf i hi)
  | some j =>
    obtain ⟨h1, h2, h3⟩ := find_some hf
    rw [h.uniq j i h2 hi (by rw [h3, hk])]
theorem plV_hit {i k : Nat} (hf : plFind st.fs k = some i) : plV st k = (st.fs.getD i frm0).b := by unfold plV; rw [hf]
theorem plV_miss {k : Nat} (hf : plFind st.fs k = none) : plV st k = pgAt st.D k := by unfold plV; rw [hf]
theorem plN_hit {i k : Nat} (hf : plFind st.fs k = some i) : plN st k = (st.fs.getD i frm0).pins := by unfold plN; rw [hf]
theorem plN_miss {k : Nat} (hf : plFind st.fs k = none) : plN st k = 0 := by unfold plN; rw [hf]
theorem miss_of {fs : List Frm} {k : Int} (h : ∀ i, (fs.getD i frm0).is = true → (fs.getD i frm0).pg ≠ k) : plFind fs k = none := by
  cases hf : plFind fs k with
  | none => rfl
  | some j => obtain ⟨h1, h2, h3⟩ := find_some hf; exact absurd h3 (h j h2)
/-- One frame is changed. -/
theorem PlInv.upd (h : PlInv n st) {i : Nat} (hi : i < st.fs.length) (x : Frm) (hd : Nat) (hh : hd < st.fs.length) (D' : DiskSt) (hf : D'.fuse = none)
    (h1 : x.is = false → x = frm0) (h2 : x.is = true → ∃ k : Nat, x.pg = k ∧ k < n / 8) (h3 : x.is = true → x.b.length = 4096) (h4 : 0 ≤ x.pins)
    (h5 : x.is = true → ∀ j, j ≠ i → (st.fs.getD j frm0).is = true → (st.fs.getD j frm0).pg ≠ x.pg)
    (h6 : ∀ j (k : Nat), j ≠ i → (st.fs.getD j frm0).is = true → (st.fs.getD j frm0).dirty = false → (st.fs.getD j frm0).pg = k → pgAt D' k = pgAt st.D k)
    (h7 : ∀ k : Nat, x.is = true → x.dirty = false → x.pg = k → x.b = pgAt D' k) (h8 : ∀ k : Nat, k < n / 8 → (pgAt D' k).length = 4096) : PlInv n ⟨st.fs.set i x, hd, D'⟩ := by
  have q := fun j => fr_set st.fs i x hi j
  refine ⟨hf, by rw [List.length_set]; exact hh, fun j => ?_, fun j => ?_, fun j => ?_, fun j => ?_, fun j j' => ?_, fun j k => ?_, h8⟩ <;> simp only [q]
  · split
    · exact h1
    · exact h.off j
  · split
    · exact h2
    · exact h.pg j
  · split
    · exact h3
    · exact h.len j
  · split
    · exact h4
    · exact h.pins j
  · by_cases e1 : j = i
    · rw [if_pos e1]
      by_cases e2 : j' = i
      · rw [if_pos e2]; intros; rw [e1, e2]
      · rw [if_neg e2]; intro a b c; exact absurd c.symm (h5 a j' e2 b)
    · rw [if_neg e1]
      by_cases e2 : j' = i
      · rw [if_pos e2]; intro a b c; exact absurd c (h5 b j e1 a)
      · rw [if_neg e2]; exact h.uniq j j'
  · split
    · exact h7 k
    · rename_i e
      intro a b c
      rw [h6 j k e a b c]
      exact h.cln j k a b c
/-- What a changed frame leaves of each page. -/
theorem PlInv.look (h : PlInv n st) {i : Nat} (hi : i < st.fs.length) {x : Frm} {hd : Nat} {D' : DiskSt} (h' : PlInv n ⟨st.fs.set i x, hd, D'⟩) (k : Nat)
    (hA : x.is = true → x.pg = k → (st.fs.getD i frm0).is = true ∧ (st.fs.getD i frm0).pg = k)
    (hB : (st.fs.getD i frm0).is = true → (st.fs.getD i frm0).pg = k → (x.is = true ∧ x.pg = k ∧ x.b = (st.fs.getD i frm0).b ∧ x.pins = (st.fs.getD i frm0).pins) ∨ (x.is = false ∧ pgAt D' k = (st.fs.getD i frm0).b ∧ (st.fs.getD i frm0).pins = 0))
    (hC : ((st.fs.getD i frm0).is = true → (st.fs.getD i frm0).pg ≠ k) → pgAt D' k = pgAt st.D k) :
    plV ⟨st.fs.set i x, hd, D'⟩ k = plV st k ∧ plN ⟨st.fs.set i x, hd, D'⟩ k = plN st k := by
  have q := fun j => fr_set st.fs i x hi j
  cases hf : plFind st.fs (k : Int) with
  | some j =>
    obtain ⟨f1, f2, f3⟩ := find_some hf
    by_cases e : j = i
    · subst e
      rcases hB f2 f3 with ⟨b1, b2, b3, b4⟩ | ⟨b1, b2, b3⟩
      · have hf' : plFind (st.fs.set j x) (k : Int) = some j := h'.hit (by simp only [q, if_true]; exact b1) (by simp only [q, if_true]; exact b2)
        rw [plV_hit (st := ⟨st.fs.set j x, hd, D'⟩) hf', plN_hit (st := ⟨st.fs.set j x, hd, D'⟩) hf', plV_hit hf, plN_hit hf]
        simp only [q, if_true]
        exact ⟨b3, b4⟩
      · have hf' : plFind (st.fs.set j x) (k : Int) = none := miss_of (fun j' => by
          simp only [q]
          split
          · intro a; rw [b1] at a; cases a
          · rename_i e'; intro a b; exact e' (h.uniq _ _ a f2 (by rw [b, f3])))
        rw [plV_miss (st := ⟨st.fs.set j x, hd, D'⟩) hf', plN_miss (st := ⟨st.fs.set j x, hd, D'⟩) hf', plV_hit hf, plN_hit hf]
        exact ⟨b2, b3.symm⟩
    · have hf' : plFind (st.fs.set i x) (k : Int) = some j := h'.hit (by simp only [q]; rw [if_neg e]; exact f2) (by simp only [q]; rw [if_neg e]; exact f3)
      rw [plV_hit (st := ⟨st.fs.set i x, hd, D'⟩) hf', plN_hit (st := ⟨st.fs.set i x, hd, D'⟩) hf', plV_hit hf, plN_hit hf]
      simp only [q]
      rw [if_neg e]
      exact ⟨rfl, rfl⟩
  | none =>
    have hn := find_none hf
    have hf' : plFind (st.fs.set i x) (k : Int) = none := miss_of (fun j' => by
      simp only [q]
      split
      · intro a b
        obtain ⟨c1, c2⟩ := hA a b
        exact hn i c1 c2
      · exact hn j')
    rw [plV_miss (st := ⟨st.fs.set i x, hd, D'⟩) hf', plN_miss (st := ⟨st.fs.set i x, hd, D'⟩) hf', plV_miss hf, plN_miss hf]
    exact ⟨hC (hn i), rfl⟩
/-- Nothing is told otherwise. -/
def PlEq (st st' : PlSt) : Prop := ∀ k : Nat, plV st' k = plV st k ∧ plN st' k = plN st k
theorem PlEq.refl (st : PlSt) : PlEq st st := fun _ => ⟨rfl, rfl⟩
theorem PlEq.trans {a b c : PlSt} (h : PlEq a b) (k : PlEq b c) : PlEq a c := fun x => ⟨(k x).1.trans (h x).1, (k x).2.trans (h x).2⟩
/-- A frame with the same page and bytes and pins, over the same disk. -/
theorem PlInv.mark (h : PlInv n st) {i : Nat} (hi : i < st.fs.length) (x : Frm) (hd : Nat) (hh : hd < st.fs.length) (h1 : x.is = (st.fs.getD i frm0).is) (h2 : x.pg = (st.fs.getD i frm0).pg) (h3 : x.b = (st.fs.getD i frm0).b) (h4 : x.pins = (st.fs.getD i frm0).pins)
    (h5 : x.is = false → x = frm0) (h6 : x.dirty = false → (st.fs.getD i frm0).dirty = false) : PlInv n ⟨st.fs.set i x, hd, st.D⟩ ∧ PlEq st ⟨st.fs.set i x, hd, st.D⟩ := by
  have hI : PlInv n ⟨st.fs.set i x, hd, st.D⟩ := h.upd hi x hd hh st.D h.fuse h5 (fun a => by rw [h2]; exact h.pg i (by rw [← h1]; exact a)) (fun a => by rw [h3]; exact h.len i (by rw [← h1]; exact a)) (by rw [h4]; exact h.pins i)
    (fun a j hj b c => hj (h.uniq _ _ b (by rw [← h1]; exact a) (by rw [c, h2]))) (fun _ _ _ _ _ _ => rfl) (fun k a b c => by rw [h3]; exact h.cln i k (by rw [← h1]; exact a) (h6 b) (by rw [← h2]; exact c)) h.plen
  exact ⟨hI, fun k => h.look hi hI k (fun a b => ⟨by rw [← h1]; exact a, by rw [← h2]; exact b⟩) (fun a b => .inl ⟨by rw [h1]; exact a, by rw [h2]; exact b, h3, h4⟩) (fun _ => rfl)⟩
/-- A frame is saved. -/
theorem PlInv.saved (h : PlInv n st) (i : Nat) : ∃ D', plSave (st.fs.getD i frm0) n st.D = (0, (if (st.fs.getD i frm0).is then { (st.fs.getD i frm0) with dirty := false } else (st.fs.getD i frm0)), D') ∧ D'.fuse = none ∧
    ∀ k : Nat, pgAt D' k = if (st.fs.getD i frm0).is = true ∧ (st.fs.getD i frm0).pg = k then (st.fs.getD i frm0).b else pgAt st.D k := by
  have hc := h.cln i
  have hp := h.pg i
  have hl := h.len i
  generalize st.fs.getD i frm0 = f at *
  obtain ⟨is, pg, pins, dirty, used, b⟩ := f
  cases is with
  | false => exact ⟨st.D, rfl, h.fuse, fun k => by simp⟩
  | true =>
    cases dirty with
    | false =>
      refine ⟨st.D, rfl, h.fuse, fun k => ?_⟩
      split
      · rename_i e; exact (hc k rfl rfl e.2).symm
      · rfl
    | true =>
      obtain ⟨k0, e1, e2⟩ := hp rfl
      simp only at e1
      subst e1
      obtain ⟨M, s1, s2⟩ := save_pg (xs := b) h.fuse e2 (hl rfl)
      refine ⟨⟨st.D.b, M, none⟩, ?_, rfl, fun k => ?_⟩
      · unfold plSave
        simp only [Bool.and_self, if_true, s1]
      · rw [s2 k]
        by_cases e : k = k0
        · subst e; simp
        · rw [if_neg e, if_neg (fun hh => e (by have := hh.2; simp only at this; omega))]
end
end Go.Proofs.YtoidlmhebnlnbaaDoor
/- pool, plain: each method, where no fault is set. -/
set_option linter.unusedVariables false
set_option linter.unusedSimpArgs false
namespace Go.Proofs.YtoidlmhebnlnbaaDoor
open Go.ChangeShapes Go.WideShapes Go.ChangeAt Go.RowKit
set_option maxRecDepth 100000

section
variable {n : Nat} {st : PlSt}
theorem PlInv.evict (h : PlInv n st) {i : Nat} (hi : i < st.fs.length) (hp : ¬ 0 < (st.fs.getD i frm0).pins) (hd : Nat) (hh : hd < st.fs.length) :
    (plSave (st.fs.getD i frm0) n st.D).1 = 0 ∧ PlInv n ⟨st.fs.set i frm0, hd, (plSave (st.fs.getD i frm0) n st.D).2.2⟩ ∧ PlEq st ⟨st.fs.set i frm0, hd, (plSave (st.fs.getD i frm0) n st.D).2.2⟩ ∧
    ∀ k : Nat, pgAt (plSave (st.fs.getD i frm0) n st.D).2.2 k = if (st.fs.getD i frm0).is = true ∧ (st.fs.getD i frm0).pg = k then (st.fs.getD i frm0).b else pgAt st.D k := by
  obtain ⟨D', e, hf, hp'⟩ := h.saved i
  rw [e]
  have hI : PlInv n ⟨st.fs.set i frm0, hd, D'⟩ := h.upd hi frm0 hd hh D' hf (fun _ => rfl) (fun a => by cases a) (fun a => by cases a) (by decide) (fun a => by cases a)
    (fun j k hj a b c => by rw [hp' k, if_neg (fun hh => hj (h.uniq _ _ a hh.1 (by rw [c, hh.2])))]) (fun k a => by cases a) (fun k hk => by rw [hp' k]; split; exact h.len i (by rename_i e; exact e.1); exact h.plen k hk)
  refine ⟨rfl, hI, fun k => h.look hi hI k (fun a => by cases a) (fun a b => .inr ⟨rfl, by rw [hp' k, if_pos ⟨a, b⟩], by have := h.pins i; omega⟩) (fun a => by rw [hp' k, if_neg (fun hh => a hh.1 hh.2)]), hp'⟩
theorem PlInv.clean1 (h : PlInv n st) (i : Nat) (hi : i < st.fs.length) :
    (plSave (st.fs.getD i frm0) n st.D).1 = 0 ∧ PlInv n ⟨st.fs.set i (plSave (st.fs.getD i frm0) n st.D).2.1, st.hand, (plSave (st.fs.getD i frm0) n st.D).2.2⟩ ∧ PlEq st ⟨st.fs.set i (plSave (st.fs.getD i frm0) n st.D).2.1, st.hand, (plSave (st.fs.getD i frm0) n st.D).2.2⟩ ∧
    (plSave (st.fs.getD i frm0) n st.D).2.1.is = (st.fs.getD i frm0).is ∧ (plSave (st.fs.getD i frm0) n st.D).2.1.pg = (st.fs.getD i frm0).pg ∧ (plSave (st.fs.getD i frm0) n st.D).2.1.pins = (st.fs.getD i frm0).pins ∧ ((plSave (st.fs.getD i frm0) n st.D).2.1.is = true → (plSave (st.fs.getD i frm0) n st.D).2.1.dirty = false) := by
  obtain ⟨D', e, hf, hp'⟩ := h.saved i
  rw [e]
  have o := h.off i
  have hx : ∀ x : Frm, x = (if (st.fs.getD i frm0).is then { (st.fs.getD i frm0) with dirty := false } else (st.fs.getD i frm0)) → x.is = (st.fs.getD i frm0).is ∧ x.pg = (st.fs.getD i frm0).pg ∧ x.pins = (st.fs.getD i frm0).pins ∧ x.b = (st.fs.getD i frm0).b ∧ (x.is = true → x.dirty = false) ∧ (x.is = false → x = frm0) := by
    intro x hx
    subst hx
    split
    · rename_i h1; exact ⟨rfl, rfl, rfl, rfl, fun _ => rfl, fun a => by rw [show ({ (st.fs.getD i frm0) with dirty := false } : Frm).is = (st.fs.getD i frm0).is from rfl, h1] at a; cases a⟩
    · rename_i h1; exact ⟨rfl, rfl, rfl, rfl, fun a => absurd a h1, fun a => o a⟩
  obtain ⟨x1, x2, x3, x4, x5, x6⟩ := hx _ rfl
  generalize (if (st.fs.getD i frm0).is then { (st.fs.getD i frm0) with dirty := false } else (st.fs.getD i frm0)) = x at *
  have hI : PlInv n ⟨st.fs.set i x, st.hand, D'⟩ := h.upd hi x st.hand h.hand D' hf x6 (fun a => by rw [x2]; exact h.pg i (by rw [← x1]; exact a)) (fun a => by rw [x4]; exact h.len i (by rw [← x1]; exact a)) (by rw [x3]; exact h.pins i)
    (fun a j hj b c => hj (h.uniq _ _ b (by rw [← x1]; exact a) (by rw [c, x2])))
    (fun j k hj a b c => by rw [hp' k, if_neg (fun hh => hj (h.uniq _ _ a hh.1 (by rw [c, hh.2])))]) (fun k a b c => by rw [hp' k, if_pos ⟨by rw [← x1]; exact a, by rw [← x2]; exact c⟩, x4]) (fun k hk => by rw [hp' k]; split; exact h.len i (by rename_i e; exact e.1); exact h.plen k hk)
  exact ⟨rfl, hI, fun k => h.look hi hI k (fun a b => ⟨by rw [← x1]; exact a, by rw [← x2]; exact b⟩) (fun a b => .inl ⟨by rw [x1]; exact a, by rw [x2]; exact b, x4, x3⟩) (fun a => by rw [hp' k, if_neg (fun hh => a hh.1 hh.2)]), x1, x2, x3, x5⟩
theorem plNext_lt (h : PlInv n st) : plNext st < st.fs.length := by unfold plNext; exact Nat.mod_lt _ (by have := h.hand; omega)
/-- No page comes in. -/
def PlSub (st st' : PlSt) : Prop := ∀ j, (st'.fs.getD j frm0).is = true → (st.fs.getD j frm0).is = true ∧ (st'.fs.getD j frm0).pg = (st.fs.getD j frm0).pg
theorem PlSub.refl (st : PlSt) : PlSub st st := fun _ h => ⟨h, rfl⟩
theorem PlSub.trans {a b c : PlSt} (h : PlSub a b) (k : PlSub b c) : PlSub a c := fun j hj => ⟨(h j (k j hj).1).1, (k j hj).2.trans (h j (k j hj).1).2⟩
theorem PlSub.set {i : Nat} (hi : i < st.fs.length) (x : Frm) (hd : Nat) (D' : DiskSt) (h1 : x.is = true → (st.fs.getD i frm0).is = true ∧ x.pg = (st.fs.getD i frm0).pg) : PlSub st ⟨st.fs.set i x, hd, D'⟩ := by
  intro j
  simp only [fr_set st.fs i x hi j]
  split
  · rename_i e; subst e; exact h1
  · exact fun a => ⟨a, rfl⟩
theorem plRound_ok : ∀ (m : Nat) (st : PlSt), PlInv n st → PlInv n (plRound n m st).2 ∧ PlEq st (plRound n m st).2 ∧ PlSub st (plRound n m st).2 ∧
    (∀ i, (plRound n m st).1.1 = some i → i < st.fs.length ∧ ((plRound n m st).2.fs.getD i frm0).is = false ∧ (plRound n m st).1.2 = 0) ∧ ((plRound n m st).1.1 = none → (plRound n m st).1.2 = 9) := by
  intro m
  induction m with
  | zero => intro st h; exact ⟨h, PlEq.refl _, PlSub.refl _, (fun i hi => by cases hi), fun _ => rfl⟩
  | succ m ih =>
    intro st h
    rw [plRound]
    have hn := plNext_lt h
    split
    · have h1 : PlInv n { st with hand := plNext st } := ⟨h.fuse, hn, h.off, h.pg, h.len, h.pins, h.uniq, h.cln, h.plen⟩
      obtain ⟨a, b, c, d, e⟩ := ih _ h1
      exact ⟨a, fun k => b k, fun j hj => c j hj, d, e⟩
    · rename_i hp
      split
      · rename_i hu
        obtain ⟨h1, h2⟩ := h.mark h.hand { (st.fs.getD st.hand frm0) with used := false } (plNext st) hn rfl rfl rfl rfl (fun a => by have := h.off st.hand a; rw [this]; rfl) (fun a => a)
        obtain ⟨a, b, c, d, e⟩ := ih _ h1
        refine ⟨a, h2.trans b, PlSub.trans (PlSub.set h.hand { (st.fs.getD st.hand frm0) with used := false } _ _ (fun a => ⟨a, rfl⟩)) c, fun i hi => ?_, e⟩
        have := d i hi
        rw [List.length_set] at this
        exact this
      · obtain ⟨s1, s2, s3, -⟩ := h.evict h.hand hp (plNext st) hn
        rw [if_pos s1]
        refine ⟨s2, s3, PlSub.set h.hand _ _ _ (fun a => by cases a), fun i hi => ?_, fun a => by cases a⟩
        cases hi
        refine ⟨h.hand, ?_, rfl⟩
        rw [fr_set _ _ _ h.hand, if_pos rfl]; rfl
theorem plRoom_ok (h : PlInv n st) : PlInv n (plRoom n st).2 ∧ PlEq st (plRoom n st).2 ∧ PlSub st (plRoom n st).2 ∧
    (∀ i, (plRoom n st).1.1 = some i → i < st.fs.length ∧ ((plRoom n st).2.fs.getD i frm0).is = false ∧ (plRoom n st).1.2 = 0) ∧ ((plRoom n st).1.1 = none → (plRoom n st).1.2 = 9) := by
  unfold plRoom
  split
  · rename_i i hi
    have h1 := plIx_some hi
    refine ⟨h, PlEq.refl _, PlSub.refl _, fun j hj => ?_, (fun a => by cases a)⟩
    cases hj
    exact ⟨by omega, by simpa using h1.2.2, rfl⟩
  · exact plRound_ok _ _ h
theorem plRoom_emp {i : Nat} (hi : i < st.fs.length) (he : (st.fs.getD i frm0).is = false) : (plRoom n st).1.1 ≠ none ∧ (plRoom n st).2 = st := by
  unfold plRoom
  split
  · exact ⟨by simp, rfl⟩
  · rename_i hn
    have := plIx_none hn (st.fs.getD i frm0) (by rw [List.getD_eq_getElem?_getD, List.getElem?_eq_getElem hi]; exact List.getElem_mem hi)
    rw [he] at this; cases this
theorem plRoom_lenI (st : PlSt) (n : Nat) : (plRoom n st).2.fs.length = st.fs.length := plRoom_len n st
/-- A page is put in, where no frame has it. -/
theorem PlInv.come (h : PlInv n st) {i k : Nat} (hi : i < st.fs.length) (he : (st.fs.getD i frm0).is = false) (hk : k < n / 8) (hf : plFind st.fs k = none) (x : Frm) (h1 : x.is = true) (h2 : x.pg = k) (h3 : x.b.length = 4096) (h4 : x.pins = 0)
    (h5 : x.dirty = false → x.b = pgAt st.D k) : PlInv n ⟨st.fs.set i x, st.hand, st.D⟩ ∧ plFind (st.fs.set i x) k = some i ∧
    ∀ k' : Nat, plV ⟨st.fs.set i x, st.hand, st.D⟩ k' = (if k' = k then x.b else plV st k') ∧ plN ⟨st.fs.set i x, st.hand, st.D⟩ k' = plN st k' := by
  have hI : PlInv n ⟨st.fs.set i x, st.hand, st.D⟩ := h.upd hi x st.hand h.hand st.D h.fuse (fun a => by rw [h1] at a; cases a) (fun _ => ⟨k, h2, hk⟩) (fun _ => h3) (by omega)
    (fun _ j hj a b => find_none hf j a (by rw [b, h2])) (fun _ _ _ _ _ _ => rfl) (fun k' _ b c => by
      have : k' = k := by rw [h2] at c; omega
      subst this; exact h5 b) h.plen
  have q := fun j => fr_set st.fs i x hi j
  have hF : plFind (st.fs.set i x) (k : Int) = some i := hI.hit (i := i) (by simp only [q, if_true]; exact h1) (by simp only [q, if_true]; exact h2)
  refine ⟨hI, hF, fun k' => ?_⟩
  by_cases e : k' = k
  · subst e
    rw [plV_hit (st := ⟨st.fs.set i x, st.hand, st.D⟩) hF, plN_hit (st := ⟨st.fs.set i x, st.hand, st.D⟩) hF, plN_miss hf, if_pos rfl]
    simp only [q, if_true]
    exact ⟨trivial, h4⟩
  · rw [if_neg e]
    exact h.look hi hI k' (fun a b => absurd (by rw [h2] at b; omega) e) (fun a => by rw [he] at a; cases a) (fun _ => rfl)
/-- A frame that has the page is changed. -/
theorem PlInv.turn (h : PlInv n st) {i k : Nat} (hf : plFind st.fs k = some i) (x : Frm) (h1 : x.is = true) (h2 : x.pg = k) (h3 : x.b.length = 4096) (h4 : 0 ≤ x.pins)
    (h5 : x.dirty = false → x.b = pgAt st.D k) : PlInv n ⟨st.fs.set i x, st.hand, st.D⟩ ∧ plFind (st.fs.set i x) k = some i ∧
    ∀ k' : Nat, plV ⟨st.fs.set i x, st.hand, st.D⟩ k' = (if k' = k then x.b else plV st k') ∧ plN ⟨st.fs.set i x, st.hand, st.D⟩ k' = (if k' = k then x.pins else plN st k') := by
  obtain ⟨f1, f2, f3⟩ := find_some hf
  have hI : PlInv n ⟨st.fs.set i x, st.hand, st.D⟩ := h.upd f1 x st.hand h.hand st.D h.fuse (fun a => by rw [h1] at a; cases a) (fun _ => by
      obtain ⟨k0, e1, e2⟩ := h.pg i f2
      exact ⟨k0, by rw [h2, ← f3, e1], e2⟩) (fun _ => h3) h4
    (fun _ j hj a b => hj (h.uniq _ _ a f2 (by rw [b, h2, f3]))) (fun _ _ _ _ _ _ => rfl) (fun k' _ b c => by
      have : k' = k := by rw [h2] at c; omega
      subst this; exact h5 b) h.plen
  have q := fun j => fr_set st.fs i x f1 j
  have hF : plFind (st.fs.set i x) (k : Int) = some i := hI.hit (i := i) (by simp only [q, if_true]; exact h1) (by simp only [q, if_true]; exact h2)
  refine ⟨hI, hF, fun k' => ?_⟩
  by_cases e : k' = k
  · subst e
    rw [plV_hit (st := ⟨st.fs.set i x, st.hand, st.D⟩) hF, plN_hit (st := ⟨st.fs.set i x, st.hand, st.D⟩) hF, if_pos rfl, if_pos rfl]
    simp only [q, if_true]
    exact ⟨trivial, trivial⟩
  · rw [if_neg e, if_neg e]
    exact h.look f1 hI k' (fun a b => absurd (by rw [h2] at b; omega) e) (fun a b => absurd (by rw [f3] at b; omega) e) (fun _ => rfl)
theorem pgOut_no {n k : Nat} (hk : k < n / 8) : ¬ pgOut n (k : Int) := by unfold pgOut; omega
theorem plGet_ok (h : PlInv n st) {k : Nat} (hk : k < n / 8) : PlInv n (plGet n st k).2 ∧ PlEq st (plGet n st k).2 ∧ (((plGet n st k).1 = (none, 9) ∧ plFind st.fs k = none) ∨ ∃ i, (plGet n st k).1 = (some i, 0) ∧ plFind (plGet n st k).2.fs k = some i ∧ plGetB n st k = plV st k) := by
  have ho := pgOut_no hk
  cases hf : plFind st.fs (k : Int) with
  | some i =>
    obtain ⟨f1, f2, f3⟩ := find_some hf
    unfold plGetB
    rw [plGet_hit ho hf]
    obtain ⟨h1, h2, h3⟩ := h.turn hf { (st.fs.getD i frm0) with used := true } f2 f3 (h.len i f2) (h.pins i) (fun a => h.cln i k f2 a f3)
    refine ⟨h1, fun k' => ?_, .inr ⟨i, rfl, h2, ?_⟩⟩
    · obtain ⟨a, b⟩ := h3 k'
      rw [a, b]
      by_cases e : k' = k
      · subst e; rw [if_pos rfl, if_pos rfl, plV_hit hf, plN_hit hf]; exact ⟨rfl, rfl⟩
      · rw [if_neg e, if_neg e]; exact ⟨rfl, rfl⟩
    · show ((st.fs.set i _).getD i frm0).b = _
      rw [fr_set _ _ _ f1, if_pos rfl, plV_hit hf]
  | none =>
    obtain ⟨r1, r2, r3, r4, r5⟩ := plRoom_ok h
    have rl := plRoom_len n st
    unfold plGetB
    rcases hr : plRoom n st with ⟨⟨so, se⟩, st1⟩
    rw [hr] at r1 r2 r3 r4 r5 rl
    simp only at r1 r2 r3 r4 r5 rl
    cases so with
    | none =>
      rw [plGet_full ho hf hr]
      refine ⟨r1, r2, .inl ⟨?_, rfl⟩⟩
      have := r5 rfl
      simp only [this]
    | some i =>
      obtain ⟨i1, i2, i3⟩ := r4 i rfl
      have hf1 : plFind st1.fs (k : Int) = none := miss_of (fun j a => by
        obtain ⟨b, c⟩ := r3 j a
        rw [c]; exact find_none hf j b)
      have hL := load_pg (n := n) r1.fuse hk
      rw [plGet_load ho hf hr, hL, if_pos rfl]
      obtain ⟨h1, h2, h3⟩ := r1.come (by rw [rl]; exact i1) i2 hk hf1 ⟨true, k, 0, false, true, pgAt st1.D k⟩ rfl rfl (r1.plen k hk) rfl (fun _ => rfl)
      have hv : plV st1 k = pgAt st1.D k := plV_miss hf1
      refine ⟨h1, fun k' => ?_, .inr ⟨i, rfl, h2, ?_⟩⟩
      · obtain ⟨a, b⟩ := h3 k'
        simp only
        rw [a, b]
        by_cases e : k' = k
        · subst e; rw [if_pos rfl]; exact ⟨hv.symm.trans (r2 k').1, (r2 k').2⟩
        · rw [if_neg e]; exact r2 k'
      · show ((st1.fs.set i _).getD i frm0).b = _
        rw [fr_set _ _ _ (by rw [rl]; exact i1), if_pos rfl]
        exact hv.symm.trans (r2 k).1
end
end Go.Proofs.YtoidlmhebnlnbaaDoor
