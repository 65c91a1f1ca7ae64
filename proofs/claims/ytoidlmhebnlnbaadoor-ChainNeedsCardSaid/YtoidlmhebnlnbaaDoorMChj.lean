/- Walks and laws that the claim's last text stands on, several texts in one file: PlD, PlE, PlF, PlG, PlH, PlI. Under the hypotheses that each theorem states. -/
import Derived.Test.YtoidlmhebnlnbaaDoorMCha
import Derived.Test.YtoidlmhebnlnbaaDoorMChb
import Derived.Test.YtoidlmhebnlnbaaDoorMChc
import Derived.Test.YtoidlmhebnlnbaaDoorMChd
import Derived.Test.YtoidlmhebnlnbaaDoorMChe
import Derived.Test.YtoidlmhebnlnbaaDoorMChf
import Derived.Test.YtoidlmhebnlnbaaDoorMChg
import Derived.Test.YtoidlmhebnlnbaaDoorMChh
import Derived.Test.YtoidlmhebnlnbaaDoorMChi
/- pool: the walks through get, Get, Pin. -/
set_option linter.unusedVariables false
set_option linter.unusedSimpArgs false
namespace Go.Proofs.YtoidlmhebnlnbaaDoor
open Go.ChangeShapes Go.WideShapes Go.ChangeAt Go.RowKit
attribute [local go_sem] nb_nonneg nb_lt8 nb_lt64
set_option maxRecDepth 100000

theorem plFind_lt {fs : List Frm} {k : Int} {i : Nat} (h : plFind fs k = some i) : i < fs.length ∧ plHas (fs.getD i frm0) k = true := by
  have := plIx_some h
  exact ⟨by omega, by simpa using this.2.2⟩
theorem plEmpty_lt {fs : List Frm} {i : Nat} (h : plEmpty fs = some i) : i < fs.length := by have := plIx_some h; omega
theorem plRound_len (n : Nat) : ∀ (k : Nat) (st : PlSt), (plRound n k st).2.fs.length = st.fs.length := by
  intro k
  induction k with
  | zero => intro st; rfl
  | succ k ih =>
    intro st
    rw [plRound]
    split
    · exact ih _
    · split
      · rw [ih]; simp
      · split <;> simp
theorem plRoom_len (n : Nat) (st : PlSt) : (plRoom n st).2.fs.length = st.fs.length := by
  unfold plRoom
  split
  · rfl
  · exact plRound_len _ _ _
section
variable {w w' w1 w2 : World} {F G : List Nat} {g n gp gf hand : Nat} {xs : List FrX} {D : DiskSt} {st st' : PlSt}
theorem PolR.same (h : Pol w F G g n gp gf xs hand D) : PolR w F G g n gp gf (plOf xs hand D) w := ⟨F, xs, h, rfl, fun _ hx => .inl hx, TS.refl _ _⟩
theorem PolR.of (h : Pol w' F G g n gp gf xs hand D) (t : TS (gp :: gf :: F) w w') : PolR w F G g n gp gf (plOf xs hand D) w' := ⟨F, xs, h, rfl, fun _ hx => .inl hx, t⟩
theorem PolR.of2 {F' : List Nat} (h : Pol w' F' G g n gp gf xs hand D) (hf : ∀ x ∈ F', x ∈ F ∨ w.heap.size ≤ x) (t : TS (gp :: gf :: F) w w') : PolR w F G g n gp gf (plOf xs hand D) w' := ⟨F', xs, h, rfl, hf, t⟩
/-- A call behind another one. -/
theorem PolR.after {F' : List Nat} (hf : ∀ x ∈ F', x ∈ F ∨ w.heap.size ≤ x) (t : TS (gp :: gf :: F) w w1) (h : PolR w1 F' G g n gp gf st w2) : PolR w F G g n gp gf st w2 := by
  obtain ⟨F2, ys, h1, h2, h3, h4⟩ := h
  refine ⟨F2, ys, h1, h2, fun x hx => ?_, t.trans h4 (fun x hx => ?_)⟩
  · rcases h3 x hx with h | h
    · exact hf x h
    · exact .inr (Nat.le_trans t.size h)
  · rcases List.mem_cons.1 hx with rfl | hx
    · exact .inl (by simp)
    · rcases List.mem_cons.1 hx with rfl | hx
      · exact .inl (by simp)
      · exact (hf x hx).imp (fun h => List.mem_cons_of_mem _ (List.mem_cons_of_mem _ h)) id
theorem PolR.len (h : PolR w F G g n gp gf st w') : ∃ F' ys, Pol w' F' G g n gp gf ys st.hand st.D ∧ ys.map (·.f) = st.fs ∧ ys.length = st.fs.length ∧ (∀ x ∈ F', x ∈ F ∨ w.heap.size ≤ x) ∧ TS (gp :: gf :: F) w w' := by
  obtain ⟨F2, ys, h1, h2, h3, h4⟩ := h
  exact ⟨F2, ys, h1, h2, by rw [← h2, List.length_map], h3, h4⟩
theorem plOf_eta {ys : List FrX} {st : PlSt} (h : ys.map (·.f) = st.fs) : plOf ys st.hand st.D = st := by unfold plOf; rw [h]
/-- One cell of a frame is written. -/
theorem Pol.setU (h : Pol w F G g n gp gf xs hand D) (i : Nat) (hi : i < xs.length) :
    ∃ ys, Pol (w.setCell ⟨gf, i * 6 + 4, none⟩ (.bool true)) F G g n gp gf ys hand D ∧ ys.map (·.f) = (xs.map (·.f)).set i { ((xs.map (·.f)).getD i frm0) with used := true } := by
  refine ⟨_, h.set1 i hi 4 (by omega) (.bool true) { xs[i].f with used := true } rfl rfl, ?_⟩
  rw [List.map_set, plGetD xs i hi]
theorem Pol.fz (h : Pol w F G g n gp gf xs hand D) (j : Nat) : w.frozen? ⟨gf, j, none⟩ = false := frozen_row _ h.frow j
/-- A frame of the pool's own bytes. -/
theorem Pol.putF (h : Pol w F G g n gp gf xs hand D) (i : Nat) (hi : i < xs.length) (f : Frm) (A : Option Addr) (c : Nat) (hr : Rd w A f.b) (hc : f.b.length ≤ c) (hm : c ≤ maxLen) (hb : f.b.length ≤ 100000000000)
    (hA : ∀ ad, A = some ad → ad.block < w.heap.size ∧ ad.block ∉ F ∧ ad.block ≠ gp ∧ ad.block ≠ gf ∧ ad.block ∉ G) :
    (Instr.storeAt 85 (.pointer (some ⟨gf, i * 6, none⟩)) (.agg #[.bool f.is, .int .i64 f.pg, .int .i64 f.pins, .bool f.dirty, .bool f.used, .slice A f.b.length c])).run Tryd.prog w = .ok () (w.setRow gf (frFlat (xs.set i ⟨f, A, c⟩)).toArray) ∧
      Pol (w.setRow gf (frFlat (xs.set i ⟨f, A, c⟩)).toArray) F G g n gp gf (xs.set i ⟨f, A, c⟩) hand D ∧ (xs.set i ⟨f, A, c⟩).map (·.f) = (xs.map (·.f)).set i f :=
  ⟨h.storeF i hi ⟨f, A, c⟩, h.wholeF i ⟨f, A, c⟩ ⟨hr, hc, hm, hA, hb⟩, by rw [List.map_set]⟩
theorem sdRead_512 {D : DiskSt} (hb : D.b.length = 512 * n) (hM : ∀ p ∈ D.M, p.2.length = 512) (k : Int) : ((sdRead D n k).2.1 = 0 → (sdRead D n k).1.length = 512) ∧ (sdRead D n k).2.2.b = D.b ∧ (sdRead D n k).2.2.M = D.M := by
  unfold sdRead
  split
  · exact ⟨fun h => by simp at h, rfl, rfl⟩
  · rename_i hk
    split
    · exact ⟨fun h => by simp at h, rfl, rfl⟩
    · refine ⟨fun _ => ?_, rfl, rfl⟩
      simp only
      cases hc : cget D.M k with
      | none =>
        show (sec D.b k.toNat).length = 512
        unfold sec
        rw [List.length_take, List.length_drop, hb]
        omega
      | some x =>
        have h1 := hM
        clear hM
        show x.length = 512
        revert hc h1
        generalize D.M = M
        intro h1 hc
        induction M with
        | nil => cases h1
        | cons p M ih =>
          obtain ⟨k', v⟩ := p
          rw [cget] at h1
          split at h1
          · cases h1; exact hc (k', x) (by simp)
          · exact ih h1 (fun p hp => hc p (by simp [hp]))
theorem ldF_len (k : Int) : ∀ (r i : Nat) (out : List Byte) (D : DiskSt), D.b.length = 512 * n → (∀ p ∈ D.M, p.2.length = 512) → (ldF n k r i out D).2.1 = 0 → (ldF n k r i out D).1.length = out.length + 512 * r := by
  intro r
  induction r with
  | zero => intro i out D _ _ _; rfl
  | succ r ih =>
    intro i out D hb hM h
    obtain ⟨h1, h2, h3⟩ := sdRead_512 (n := n) hb hM (k * 8 + i)
    rw [ldF] at h ⊢
    by_cases hc : (sdRead D n (k * 8 + i)).2.1 = 0
    · rw [if_pos hc] at h ⊢
      rw [ih (i + 1) _ _ (by rw [h2]; exact hb) (by rw [h3]; exact hM) h, List.length_append, h1 hc]
      omega
    · rw [if_neg hc] at h
      exact absurd h hc
theorem sdLoad_len {D : DiskSt} (hD : D.ok n) (k : Int) (h : (sdLoad D n k).2.1 = 0) : (sdLoad D n k).1.length = 4096 := by
  unfold sdLoad at h ⊢
  split at h
  · simp at h
  · rename_i ho
    rw [if_neg ho, ldF_len k 8 0 [] D hD.len (fun p hp => (hD.M p hp).2.2) h]
    rfl
theorem plRound_code {D : DiskSt} (n : Nat) : ∀ (k : Nat) (st : PlSt), ((plRound n k st).1.1 = none → (plRound n k st).1.2 ≠ 0) ∧ ((plRound n k st).1.1 ≠ none → (plRound n k st).1.2 = 0) := by
  intro k
  induction k with
  | zero => intro st; exact ⟨fun _ => by show (9 : Int) ≠ 0; decide, fun h => absurd rfl h⟩
  | succ k ih =>
    intro st
    rw [plRound]
    split
    · exact ih _
    · split
      · exact ih _
      · split
        · exact ⟨(fun h => by cases h), fun _ => rfl⟩
        · rename_i h; exact ⟨fun _ => h, fun h2 => absurd rfl h2⟩
theorem plRoom_code (n : Nat) (st : PlSt) : ((plRoom n st).1.1 = none → (plRoom n st).1.2 ≠ 0) ∧ ((plRoom n st).1.1 ≠ none → (plRoom n st).1.2 = 0) := by
  unfold plRoom
  split
  · exact ⟨(fun h => by cases h), fun _ => rfl⟩
  · exact plRound_code (D := st.D) n _ _
theorem plGet_out {k : Int} (ho : pgOut n k) : plGet n st k = ((none, 2), st) := by unfold plGet; rw [if_pos ho]
theorem plGet_hit {k : Int} {i : Nat} (ho : ¬ pgOut n k) (hf : plFind st.fs k = some i) : plGet n st k = ((some i, 0), { st with fs := st.fs.set i { (st.fs.getD i frm0) with used := true } }) := by unfold plGet; rw [if_neg ho, hf]
theorem plGet_full {k e : Int} {st1 : PlSt} (ho : ¬ pgOut n k) (hf : plFind st.fs k = none) (hr : plRoom n st = ((none, e), st1)) : plGet n st k = ((none, e), st1) := by unfold plGet; rw [if_neg ho, hf]; simp only [hr]
theorem plGet_load {k e : Int} {i : Nat} {st1 : PlSt} (ho : ¬ pgOut n k) (hf : plFind st.fs k = none) (hr : plRoom n st = ((some i, e), st1)) :
    plGet n st k = if (sdLoad st1.D n k).2.1 = 0 then ((some i, 0), ⟨st1.fs.set i ⟨true, k, 0, false, true, (sdLoad st1.D n k).1⟩, st1.hand, (sdLoad st1.D n k).2.2⟩) else ((none, (sdLoad st1.D n k).2.1), { st1 with D := (sdLoad st1.D n k).2.2 }) := by unfold plGet; rw [if_neg ho, hf]; simp only [hr]
theorem rd_lt {W : World} {ad : Addr} {b : List Byte} (h : Rd W (some ad) b) (hb : b ≠ []) : ad.block < W.heap.size := by
  obtain ⟨b0, o, e, hlt, -⟩ := RdV.form h (by rw [vbs_length]; exact List.length_pos_iff.2 hb)
  cases e
  exact hlt
set_option maxHeartbeats 2000000 in
theorem pl_get (h : Pol w F G g n gp gf xs hand D) (k : Int) :
    Calls Tryd.prog 59 #[.pointer (some ⟨gp, 0, none⟩), .int .i64 k] w fun e w' => e = .returned (.tuple #[plPtr gf (plGet n (plOf xs hand D) k).1.1, .int .i64 (plGet n (plOf xs hand D) k).1.2]) ∧ PolR w F G g n gp gf (plGet n (plOf xs hand D) k).2 w' ∧ ∀ i, (plGet n (plOf xs hand D) k).1.1 = some i → i < xs.length := by
  have H := Lib.hid h
  have HRT := Lib.hid (pl_right h k)
  have HFN := Lib.hid (pl_find h k)
  obtain ⟨R, hR⟩ : ∃ R, R = plGet n (plOf xs hand D) k := ⟨_, rfl⟩
  rw [← hR]
  have HR := Lib.hid hR
  clear h hR
  go_enter Tryd.func59, Tryd.ntmps59
  go_wp2_with fail
  refine HRT.out.mono ?_
  rintro e w1 ⟨rfl, rfl⟩
  by_cases ho : pgOut n k
  · have hd : decide (pgOut n k) = true := decide_eq_true ho
    have HQ := Lib.hid (HR.out.trans (plGet_out ho))
    clear ho
    go_wp2
    go_ret2
    rw [HQ.out]
    exact ⟨rfl, PolR.same H.out, (fun i hi => by cases hi)⟩
  have hd : decide (pgOut n k) = false := decide_eq_false ho
  have HO := Lib.hid ho
  clear ho
  go_wp2_with fail
  refine HFN.out.mono ?_
  rintro e w1 ⟨rfl, rfl⟩
  clear HFN HRT hd
  cases hf : plFind (xs.map (·.f)) k with
  | some i =>
    have hi : i < xs.length := by have := (plFind_lt hf).1; rwa [List.length_map] at this
    have HI := Lib.hid hi
    have hq := HR.out.trans (plGet_hit HO.out (show plFind (plOf xs hand D).fs k = some i from hf))
    obtain ⟨c0, c1, c2, c3, c4, c5⟩ := H.out.cells i HI.out
    have fz := H.out.fz (i * 6 + 4)
    obtain ⟨ys, hp, hys⟩ := H.out.setU i HI.out
    have HP := Lib.hid hp
    have HTE := Lib.hid (TS.tb (F := gp :: gf :: F) (TB.set (g := gf) w (i * 6 + 4) (.bool true)) (by simp))
    have HY := Lib.hid (show R = ((some i, 0), plOf ys hand D) from by rw [hq]; unfold plOf; rw [hys])
    clear hq HR hf hi hp hys H
    generalize xs[i]'(HI.out) = x at *
    simp only [plPtr]
    go_wp2
    go_ret2
    rw [HY.out]
    exact ⟨rfl, PolR.of HP.out HTE.out, (fun j hj => by cases hj; exact HI.out)⟩
  | none =>
    have HRM := Lib.hid (pl_room H.out)
    have HRC := Lib.hid (plRoom_code n (plOf xs hand D))
    obtain ⟨S, hS⟩ : ∃ S, S = plRoom n (plOf xs hand D) := ⟨_, rfl⟩
    rw [← hS] at HRM HRC
    have HS := Lib.hid hS.symm
    have HF := Lib.hid (show plFind (plOf xs hand D).fs k = none from hf)
    clear hf hS
    obtain ⟨⟨so, se⟩, st1⟩ := S
    simp only [plPtr]
    go_wp2_with fail
    refine HRM.out.mono ?_
    rintro e w1 ⟨rfl, hres, hlt⟩
    obtain ⟨F1, ys, hp1, hys, hin, hts⟩ := hres
    have HP1 := Lib.hid hp1
    have HIN := Lib.hid hin
    have HTS := Lib.hid hts
    have HYS := Lib.hid hys
    have HLT := Lib.hid hlt
    clear hp1 hin hts hys hlt HRM H
    cases so with
    | none =>
      have hse : (se != 0) = true := by have := HRC.out.1 rfl; simpa using this
      have HQ := Lib.hid (HR.out.trans (plGet_full HO.out HF.out HS.out))
      simp only [plPtr]
      clear HR HS HF HRC
      go_wp2
      go_ret2
      rw [HQ.out]
      exact ⟨rfl, ⟨F1, ys, HP1.out, HYS.out, HIN.out, HTS.out⟩, (fun i hi => by cases hi)⟩
    | some i =>
      have hse : se = 0 := HRC.out.2 (by simp)
      subst hse
      have HI := Lib.hid (show i < xs.length from HLT.out i rfl)
      have HIY := Lib.hid (show i < ys.length from by have h1 := plRoom_len n (plOf xs hand D); rw [HS.out, ← HYS.out] at h1; simp only [List.length_map, plOf] at h1; rw [h1]; exact HI.out)
      have HQ := Lib.hid (HR.out.trans (plGet_load HO.out HF.out HS.out))
      simp only [plPtr]
      obtain ⟨p0, p1, p2⟩ := HP1.out.pcells
      have HL := Lib.hid (pg_Load HP1.out.dsk k)
      have HLL := Lib.hid (sdLoad_len HP1.out.dsk.ok k)
      generalize sdLoad st1.D n k = L at *
      obtain ⟨b, er, D2⟩ := L
      clear HR HS HF HRC HLT
      go_wp2_with fail
      refine HL.out.mono ?_
      rintro e w2 ⟨A, c, rfl, hrd, hfr, hdk, ht2, hbc, hcm⟩
      have HPD := Lib.hid (HP1.out.disk hdk (fun x hx => .inl hx) ht2)
      have HT2 := Lib.hid (show TS (gp :: gf :: F) w w2 from HTS.out.trans ht2 (fun x hx => (HIN.out x hx).imp (fun h => List.mem_cons_of_mem _ (List.mem_cons_of_mem _ h)) id))
      have HB := Lib.hid (And.intro hrd (And.intro hfr (And.intro hbc hcm)))
      clear hdk ht2 hrd hfr hbc hcm p0 p1 p2 HL
      by_cases he : er = 0
      · subst he
        have hbl : b.length = 4096 := HLL.out rfl
        have hq := HQ.out.trans (if_pos rfl)
        obtain ⟨hst, hpw, hmp⟩ := HPD.out.putF i HIY.out ⟨true, k, 0, false, false, b⟩ A c HB.out.1 HB.out.2.2.1 HB.out.2.2.2 (by show b.length ≤ _; rw [hbl]; omega) (fun ad ha => by
          subst ha
          have h1 := HB.out.2.1 ad rfl
          have hlt := HP1.out.lt
          exact ⟨rd_lt HB.out.1 (fun e => by rw [e] at hbl; cases hbl), (fun hm => by have := HP1.out.dsk.lt _ hm; omega), by omega, by omega, fun hm => by have := HP1.out.glt _ hm; omega⟩)
        obtain ⟨w3, hw3⟩ : ∃ w3 : World, w3 = w2.setRow gf (frFlat (ys.set i ⟨⟨true, k, 0, false, false, b⟩, A, c⟩)).toArray := ⟨_, rfl⟩
        rw [← hw3] at hst hpw
        have HP3 := Lib.hid hpw
        have HT3 := Lib.hid (show TS (gp :: gf :: F) w w3 from by rw [hw3]; exact HT2.out.then (TS.row _ gf w2 _ (by simp)))
        have HIZ := Lib.hid (show i < (ys.set i ⟨⟨true, k, 0, false, false, b⟩, A, c⟩).length from by rw [List.length_set]; exact HIY.out)
        obtain ⟨zs, hp4, hzs⟩ := HP3.out.setU i HIZ.out
        have fz := HP3.out.fz (i * 6 + 4)
        obtain ⟨-, -, -, -, c4, -⟩ := HP3.out.cells i HIZ.out
        have HP4 := Lib.hid hp4
        have HT4 := Lib.hid (show TS (gp :: gf :: F) w (w3.setCell ⟨gf, i * 6 + 4, none⟩ (.bool true)) from HT3.out.then (TS.tb (TB.set (g := gf) w3 (i * 6 + 4) (.bool true)) (by simp)))
        have HQ2 := Lib.hid (show R = ((some i, 0), plOf zs st1.hand D2) from by
          rw [hq]
          unfold plOf
          rw [hzs, hmp, HYS.out, List.getD_eq_getElem?_getD, List.getElem?_set_self (by rw [← HYS.out, List.length_map]; exact HIY.out), List.set_set]
          rfl)
        generalize (ys.set i ⟨⟨true, k, 0, false, false, b⟩, A, c⟩)[i]'(HIZ.out) = x at *
        clear hq hpw hmp hw3 hp4 hzs HP1 HPD HQ HB HLL HP3 HT3 HTS hbl
        go_wp2_with (refine wpList_store_by rfl _ _ _ rfl _ hst ?_)
        clear hst
        go_wp2
        go_ret2
        rw [HQ2.out]
        exact ⟨rfl, ⟨F1, zs, HP4.out, rfl, HIN.out, HT4.out⟩, (fun j hj => by cases hj; exact HI.out)⟩
      · have heb : (er != 0) = true := by simpa using he
        have HQ2 := Lib.hid (HQ.out.trans (if_neg he))
        clear he HQ
        go_wp2
        go_ret2
        rw [HQ2.out]
        exact ⟨rfl, ⟨F1, ys, HPD.out, HYS.out, HIN.out, HT2.out⟩, (fun i hi => by cases hi)⟩
end
end Go.Proofs.YtoidlmhebnlnbaaDoor
/- pool: the walks through Get, Pin, Unpin, Evict, Drop, Put. -/
set_option linter.unusedVariables false
set_option linter.unusedSimpArgs false
namespace Go.Proofs.YtoidlmhebnlnbaaDoor
open Go.ChangeShapes Go.WideShapes Go.ChangeAt Go.RowKit
attribute [local go_sem] nb_nonneg nb_lt8 nb_lt64
set_option maxRecDepth 100000

section
variable {w w' w1 w2 : World} {F G : List Nat} {g n gp gf hand : Nat} {xs : List FrX} {D : DiskSt} {st st' : PlSt}
theorem Pol.setX (h : Pol w F G g n gp gf xs hand D) (i : Nat) (hi : i < xs.length) (j : Nat) (hj : j < 6) (v : Value) (x : FrX) (hx : frCs x = (frCs xs[i]).set j v)
    (hr : Rd w x.A x.f.b ∧ x.f.b.length ≤ x.c ∧ x.c ≤ maxLen ∧ (∀ ad, x.A = some ad → ad.block < w.heap.size ∧ ad.block ∉ F ∧ ad.block ≠ gp ∧ ad.block ≠ gf ∧ ad.block ∉ G) ∧ x.f.b.length ≤ 100000000000) :
    Pol (w.setCell ⟨gf, i * 6 + j, none⟩ v) F G g n gp gf (xs.set i x) hand D := by
  refine h.frame i _ (TB.set (g := gf) w (i * 6 + j) v) ?_ hr
  rw [heap_setCell_same _ gf (i * 6 + j) _ _ _ h.frow, ← frFlat_set1 xs i hi j hj v _ hx]
  simp
theorem Pol.setP (h : Pol w F G g n gp gf xs hand D) (i : Nat) (hi : i < xs.length) (v : Int) :
    ∃ ys, Pol (w.setCell ⟨gf, i * 6 + 2, none⟩ (.int .i64 v)) F G g n gp gf ys hand D ∧ ys.map (·.f) = (xs.map (·.f)).set i { ((xs.map (·.f)).getD i frm0) with pins := v } := by
  refine ⟨_, h.set1 i hi 2 (by omega) (.int .i64 v) { xs[i].f with pins := v } rfl rfl, ?_⟩
  rw [List.map_set, plGetD xs i hi]
/-- What is asked of the bytes of a frame. -/
def FrOk (w : World) (F G : List Nat) (gp gf : Nat) (x : FrX) : Prop := Rd w x.A x.f.b ∧ x.f.b.length ≤ x.c ∧ x.c ≤ maxLen ∧ (∀ ad, x.A = some ad → ad.block < w.heap.size ∧ ad.block ∉ F ∧ ad.block ≠ gp ∧ ad.block ≠ gf ∧ ad.block ∉ G) ∧ x.f.b.length ≤ 100000000000
theorem FrOk.tb {x : FrX} (h : FrOk w F G gp gf x) (k : TB gf w w') : FrOk w' F G gp gf x :=
  ⟨(TS.tb (F := [gf]) k (by simp)).rd h.1 (fun ad ha hm => (h.2.2.2.1 ad ha).2.2.2.1 (by simpa using hm)), h.2.1, h.2.2.1, fun ad ha => ⟨Nat.lt_of_lt_of_le (h.2.2.2.1 ad ha).1 k.le, (h.2.2.2.1 ad ha).2⟩, h.2.2.2.2⟩
/-- A frame's bytes are put: three cells. -/
theorem Pol.setBDU (h : Pol w F G g n gp gf xs hand D) (i : Nat) (hi : i < xs.length) (A : Option Addr) (c : Nat) (b : List Byte) (hr : FrOk w F G gp gf ⟨{ xs[i].f with b := b, dirty := true, used := true }, A, c⟩) :
    Pol (((w.setCell ⟨gf, i * 6 + 5, none⟩ (.slice A b.length c)).setCell ⟨gf, i * 6 + 3, none⟩ (.bool true)).setCell ⟨gf, i * 6 + 4, none⟩ (.bool true)) F G g n gp gf (xs.set i ⟨{ xs[i].f with b := b, dirty := true, used := true }, A, c⟩) hand D := by
  have k1 : TB gf w (w.setCell ⟨gf, i * 6 + 5, none⟩ (.slice A b.length c)) := TB.set (g := gf) w _ _
  have h1 := h.setX i hi 5 (by omega) (.slice A b.length c) ⟨{ xs[i].f with b := b }, A, c⟩ rfl hr
  have i1 : i < (xs.set i ⟨{ xs[i].f with b := b }, A, c⟩).length := by rw [List.length_set]; exact hi
  have h2 := h1.setX i i1 3 (by omega) (.bool true) ⟨{ xs[i].f with b := b, dirty := true }, A, c⟩ (by rw [List.getElem_set_self]; rfl) (hr.tb k1)
  rw [List.set_set] at h2
  have i2 : i < (xs.set i ⟨{ xs[i].f with b := b, dirty := true }, A, c⟩).length := by rw [List.length_set]; exact hi
  have h3 := h2.setX i i2 4 (by omega) (.bool true) ⟨{ xs[i].f with b := b, dirty := true, used := true }, A, c⟩ (by rw [List.getElem_set_self]; rfl) (hr.tb (k1.trans (TB.set (g := gf) _ _ _)))
  rw [List.set_set] at h3
  exact h3
/-- What Get returns. -/
def plGetB (n : Nat) (st : PlSt) (k : Int) : List Byte := match (plGet n st k).1.1 with | some i => ((plGet n st k).2.fs.getD i frm0).b | none => []
theorem plGet_code (n : Nat) (st : PlSt) (k : Int) : ((plGet n st k).1.1 = none → (plGet n st k).1.2 ≠ 0) ∧ ((plGet n st k).1.1 ≠ none → (plGet n st k).1.2 = 0) := by
  by_cases ho : pgOut n k
  · rw [plGet_out ho]; exact ⟨fun _ => by show (2 : Int) ≠ 0; decide, fun h => absurd rfl h⟩
  · cases hf : plFind st.fs k with
    | some i => rw [plGet_hit ho hf]; exact ⟨(fun h => by cases h), fun _ => rfl⟩
    | none =>
      have hc := plRoom_code n st
      rcases hr : plRoom n st with ⟨⟨so, se⟩, st1⟩
      rw [hr] at hc
      cases so with
      | none => rw [plGet_full ho hf hr]; exact hc
      | some i =>
        rw [plGet_load ho hf hr]
        split
        · exact ⟨(fun h => by cases h), fun _ => rfl⟩
        · rename_i h; exact ⟨fun _ => h, fun h => absurd rfl h⟩
theorem plGet_len (n : Nat) (st : PlSt) (k : Int) : (plGet n st k).2.fs.length = st.fs.length := by
  by_cases ho : pgOut n k
  · rw [plGet_out ho]
  · cases hf : plFind st.fs k with
    | some i => rw [plGet_hit ho hf]; simp
    | none =>
      have hc := plRoom_len n st
      rcases hr : plRoom n st with ⟨⟨so, se⟩, st1⟩
      rw [hr] at hc
      cases so with
      | none => rw [plGet_full ho hf hr]; exact hc
      | some i =>
        rw [plGet_load ho hf hr]
        split
        · simpa using hc
        · exact hc
set_option maxHeartbeats 1000000 in
theorem pl_GetC (h : Pol w F G g n gp gf xs hand D) (k : Int) :
    Calls Tryd.prog 46 #[.pointer (some ⟨gp, 0, none⟩), .int .i64 k] w fun e w' => ∃ A c, e = .returned (.tuple #[.slice A (plGetB n (plOf xs hand D) k).length c, .int .i64 (plGet n (plOf xs hand D) k).1.2]) ∧ Rd w' A (plGetB n (plOf xs hand D) k) ∧ (∀ ad, A = some ad → w.heap.size ≤ ad.block) ∧ PolR w F G g n gp gf (plGet n (plOf xs hand D) k).2 w' ∧ (plGetB n (plOf xs hand D) k).length ≤ c ∧ c ≤ maxLen := by
  have HM := Lib.hid (pl_made h)
  have HG := Lib.hid (pl_get h k)
  have HC := Lib.hid (plGet_code n (plOf xs hand D) k)
  have HLN := Lib.hid (plGet_len n (plOf xs hand D) k)
  obtain ⟨B, hB⟩ : ∃ B, B = plGetB n (plOf xs hand D) k := ⟨_, rfl⟩
  rw [← hB]
  unfold plGetB at hB
  have HB := Lib.hid hB
  clear h hB
  generalize plGet n (plOf xs hand D) k = R at *
  obtain ⟨⟨so, se⟩, st1⟩ := R
  go_enter Tryd.func46, Tryd.ntmps46
  go_wp2_with fail
  refine HM.out.mono ?_
  rintro e w1 ⟨rfl, rfl⟩
  go_wp2_with fail
  refine HG.out.mono ?_
  rintro e w1 ⟨rfl, hres, hlt⟩
  clear HM HG
  cases so with
  | none =>
    have hse : (se != 0) = true := by have := HC.out.1 rfl; simpa using this
    have HR := Lib.hid hres
    have HBB := Lib.hid (show B = [] from HB.out)
    clear hres hlt HC HB
    simp only [plPtr]
    go_wp2
    go_ret2
    rw [HBB.out]
    exact ⟨none, 0, rfl, Rd.nil _ _, (fun ad ha => by cases ha), HR.out, by simp, by simp [maxLen]⟩
  | some i =>
    have hse : se = 0 := HC.out.2 (by simp)
    subst hse
    obtain ⟨F1, ys, hp1, hys, hin, hts⟩ := hres
    have HI := Lib.hid (show i < xs.length from hlt i rfl)
    have HP1 := Lib.hid hp1
    have HR := Lib.hid (show PolR w F G g n gp gf st1 w1 from ⟨F1, ys, hp1, hys, hin, hts⟩)
    have HIY := Lib.hid (show i < ys.length from by have h1 := HLN.out; simp only [← hys, plOf, List.length_map] at h1; rw [h1]; exact HI.out)
    have hbb : B = (st1.fs.getD i frm0).b := HB.out
    rw [← hys, plGetD ys i HIY.out] at hbb
    have HBB := Lib.hid hbb
    obtain ⟨c0, c1, c2, c3, c4, c5⟩ := hp1.cells i HIY.out
    have HX := Lib.hid (hp1.rd (ys[i]'(HIY.out)) (List.getElem_mem HIY.out))
    have HXB := Lib.hid (hp1.bd (ys[i]'(HIY.out)) (List.getElem_mem HIY.out))
    clear hp1 hys hin hlt HB hbb HC HLN HP1
    generalize ys[i]'(HIY.out) = x at *
    have HTS := Lib.hid hts.size
    clear hts
    have HCL := Lib.hid (sl_Clone x.f.b x.A _ x.c w1 rfl (by have := HXB.out; omega) HX.out.1)
    simp only [plPtr]
    go_wp2_with fail
    refine HCL.out.mono ?_
    rintro e w2 ⟨A, c, rfl, ho, hb⟩
    have HO := Lib.hid ho.info
    have HBL := Lib.hid ho.bnd
    have HBW := Lib.hid hb
    clear HCL HX HXB ho hb c0 c1 c2 c3 c4 c5
    go_wp2
    go_ret2
    rw [HBB.out]
    refine ⟨A, c, rfl, HO.out.2.2.1, fun ad ha => Nat.le_trans HTS.out (HBL.out _ (by rw [ha]; rfl)), ?_⟩
    obtain ⟨F2, zs, q1, q2, q3, q4⟩ := HR.out
    exact ⟨⟨F2, zs, q1.fb HBW.out, q2, q3, q4.then (TS.of HBW.out)⟩, HO.out.1, HO.out.2.1⟩
theorem pl_Get (h : Pol w F G g n gp gf xs hand D) (k : Int) :
    Calls Tryd.prog 46 #[.pointer (some ⟨gp, 0, none⟩), .int .i64 k] w fun e w' => ∃ A c, e = .returned (.tuple #[.slice A (plGetB n (plOf xs hand D) k).length c, .int .i64 (plGet n (plOf xs hand D) k).1.2]) ∧ Rd w' A (plGetB n (plOf xs hand D) k) ∧ (∀ ad, A = some ad → w.heap.size ≤ ad.block) ∧ PolR w F G g n gp gf (plGet n (plOf xs hand D) k).2 w' :=
  (pl_GetC h k).mono fun e w1 ⟨A, c, h1, h2, h3, h4, h5⟩ => ⟨A, c, h1, h2, h3, h4⟩
end
end Go.Proofs.YtoidlmhebnlnbaaDoor
/- pool: the walks through Evict, Drop, Put, Clean, Flush. -/
set_option linter.unusedVariables false
set_option linter.unusedSimpArgs false
namespace Go.Proofs.YtoidlmhebnlnbaaDoor
open Go.ChangeShapes Go.WideShapes Go.ChangeAt Go.RowKit
attribute [local go_sem] nb_nonneg nb_lt8 nb_lt64
set_option maxRecDepth 100000

section
variable {w w' w1 w2 : World} {F G : List Nat} {g n gp gf hand : Nat} {xs : List FrX} {D : DiskSt} {st st' : PlSt}
theorem Pol.zeroF (h : Pol w F G g n gp gf xs hand D) (i : Nat) (hi : i < xs.length) :
    (Instr.storeAt 85 (.pointer (some ⟨gf, i * 6, none⟩)) (.agg #[.bool false, .int .i64 0, .int .i64 0, .bool false, .bool false, .slice none 0 0])).run Tryd.prog w = .ok () (w.setRow gf (frFlat (xs.set i frx0)).toArray) ∧
      Pol (w.setRow gf (frFlat (xs.set i frx0)).toArray) F G g n gp gf (xs.set i frx0) hand D ∧ (xs.set i frx0).map (·.f) = (xs.map (·.f)).set i frm0 :=
  ⟨h.storeF i hi frx0, h.wholeF i frx0 (frx0_ok _ _ _ _ _), by rw [List.map_set]; rfl⟩
theorem plGetS (xs : List FrX) (hand : Nat) (D : DiskSt) (i : Nat) (h : i < xs.length) : (plOf xs hand D).fs.getD i frm0 = xs[i].f := plGetD xs i h
set_option maxHeartbeats 1000000 in
theorem pl_Evict (h : Pol w F G g n gp gf xs hand D) (k : Int) :
    Calls Tryd.prog 19 #[.pointer (some ⟨gp, 0, none⟩), .int .i64 k] w fun e w' => e = .returned (.int .i64 (plEvict n (plOf xs hand D) k).1) ∧ PolR w F G g n gp gf (plEvict n (plOf xs hand D) k).2 w' := by
  have HM := Lib.hid (pl_made h)
  have H := Lib.hid h
  obtain ⟨p0, p1, p2⟩ := h.pcells
  obtain ⟨R, hR⟩ : ∃ R, R = plEvict n (plOf xs hand D) k := ⟨_, rfl⟩
  rw [← hR]
  unfold plEvict at hR
  rw [show (plOf xs hand D).fs.length = xs.length from List.length_map _] at hR
  have HR := Lib.hid hR
  clear h hR
  by_cases h1 : k < 0
  · have HQ := Lib.hid (HR.out.trans (if_pos (.inl h1)))
    go_enter Tryd.func19, Tryd.ntmps19
    go_wp2_with fail
    refine HM.out.mono ?_
    rintro e w1 ⟨rfl, rfl⟩
    go_wp2
    go_ret
    rw [HQ.out]
    exact ⟨rfl, PolR.same H.out⟩
  by_cases h2 : (xs.length : Int) ≤ k
  · have HQ := Lib.hid (HR.out.trans (if_pos (.inr h2)))
    go_enter Tryd.func19, Tryd.ntmps19
    go_wp2_with fail
    refine HM.out.mono ?_
    rintro e w1 ⟨rfl, rfl⟩
    go_wp2
    go_ret
    rw [HQ.out]
    exact ⟨rfl, PolR.same H.out⟩
  have hr := HR.out.trans (if_neg (by omega))
  obtain ⟨i, rfl⟩ : ∃ i : Nat, k = (i : Int) := ⟨k.toNat, by omega⟩
  have HI := Lib.hid (show i < xs.length from by omega)
  rw [show ((i : Int)).toNat = i by omega, plGetS xs hand D i HI.out] at hr
  have hz : (i : Int) < (xs.length : Int) := by omega
  have HQ := Lib.hid hr
  obtain ⟨c0, c1, c2, c3, c4, c5⟩ := H.out.cells i HI.out
  have HSV := Lib.hid (pl_save H.out i HI.out)
  have HPS := Lib.hid (show plSaved xs i HI.out n D = xs.set i ⟨(plSave (xs[i]'(HI.out)).f n D).2.1, (xs[i]'(HI.out)).A, (xs[i]'(HI.out)).c⟩ from rfl)
  have HPF := Lib.hid (plSave_off (xs[i]'(HI.out)).f n D)
  have HYS := Lib.hid (show xs.set i ⟨(xs[i]'(HI.out)).f, (xs[i]'(HI.out)).A, (xs[i]'(HI.out)).c⟩ = xs from List.set_getElem_self _)
  generalize plSaved xs i HI.out n D = zs at *
  generalize xs[i]'(HI.out) = x at *
  clear hr h1 h2 HR
  have hn : ¬ (i : Int) < 0 := by omega
  go_enter Tryd.func19, Tryd.ntmps19
  go_wp2_with fail
  refine HM.out.mono ?_
  rintro e w1 ⟨rfl, rfl⟩
  clear HM
  cases his : x.f.is with
  | false =>
    rw [his] at c0
    have HQ2 := Lib.hid (HQ.out.trans (if_pos (by rw [his]; rfl)))
    go_wp2
    go_ret
    rw [HQ2.out]
    exact ⟨rfl, PolR.same H.out⟩
  | true =>
    rw [his] at c0
    by_cases hp : 0 < x.f.pins
    · have HQ2 := Lib.hid (HQ.out.trans (if_pos (by rw [his]; simpa using hp)))
      clear HQ his
      go_wp2
      go_ret
      rw [HQ2.out]
      exact ⟨rfl, PolR.same H.out⟩
    · have HQ2 := Lib.hid (HQ.out.trans (if_neg (by rw [his]; simpa using hp)))
      have hq2 := HQ2.out
      replace hq2 : R = (if (plSave x.f n D).1 = 0 then (0, ⟨(xs.map (·.f)).set i frm0, hand, (plSave x.f n D).2.2⟩) else ((plSave x.f n D).1, ⟨xs.map (·.f), hand, (plSave x.f n D).2.2⟩)) := hq2
      have HQ3 := Lib.hid hq2
      clear HQ HQ2 hq2 his
      generalize plSave x.f n D = sv at *
      obtain ⟨er, f2, D2⟩ := sv
      go_wp2_with fail
      refine HSV.out.mono ?_
      rintro e wb ⟨rfl, F2, hp2, hin, hts⟩
      have HPB := Lib.hid hp2
      have HIN := Lib.hid hin
      have HTB := Lib.hid (show TS (gp :: gf :: F) w wb from hts.more (fun x hx => List.mem_cons_of_mem _ hx))
      clear hp2 hin hts HSV c0 c1 c2 c3 c4 c5 p0 p1 p2
      try simp only at HPS
      try simp only at HPF
      by_cases he : er = 0
      · subst he
        have hq2 := HQ3.out.trans (if_pos rfl)
        obtain ⟨hst, hpw, hmp⟩ := HPB.out.zeroF i (by rw [HPS.out, List.length_set]; exact HI.out)
        have hzz : zs.set i frx0 = xs.set i frx0 := by rw [HPS.out, List.set_set]
        rw [hzz] at hst hpw hmp
        have HP := Lib.hid hpw
        have HT := Lib.hid (HTB.out.then (TS.row (gp :: gf :: F) gf wb (frFlat (xs.set i frx0)).toArray (by simp)))
        have HQ4 := Lib.hid (show R = (0, plOf (xs.set i frx0) hand D2) from hq2.trans (by unfold plOf; rw [List.map_set]; rfl))
        generalize xs.set i frx0 = ys at *
        generalize wb.setRow gf (frFlat ys).toArray = w3 at *
        clear hq2 hpw hmp hzz HPB HTB H HPS HPF HYS
        go_wp2_with (refine wpList_store_by rfl _ _ _ rfl _ hst ?_)
        clear hst
        go_wp2
        go_ret
        rw [HQ4.out]
        exact ⟨rfl, PolR.of2 HP.out HIN.out HT.out⟩
      · have heb : (er != 0) = true := by simpa using he
        have HQ4 := Lib.hid (HQ3.out.trans (if_neg he))
        have HZY := Lib.hid (show zs = xs from by rw [HPS.out, HPF.out he]; exact HYS.out)
        clear he
        go_wp2
        go_ret
        rw [HQ4.out]
        exact ⟨rfl, F2, xs, by have h := HPB.out; rw [HZY.out] at h; exact h, rfl, HIN.out, HTB.out⟩
end
end Go.Proofs.YtoidlmhebnlnbaaDoor
/- pool: the walks through Put, Clean, Flush. -/
set_option linter.unusedVariables false
set_option linter.unusedSimpArgs false
namespace Go.Proofs.YtoidlmhebnlnbaaDoor
open Go.ChangeShapes Go.WideShapes Go.ChangeAt Go.RowKit
attribute [local go_sem] nb_nonneg nb_lt8 nb_lt64
set_option maxRecDepth 100000

section
variable {w w' w1 w2 : World} {F G : List Nat} {g n gp gf hand : Nat} {xs : List FrX} {D : DiskSt} {st st' : PlSt}
theorem plPut_out {k : Int} {b : List Byte} (ho : pgOut n k ∨ b.length ≠ 4096) : plPut n st k b = (2, st) := by unfold plPut; rw [if_pos ho]
theorem plPut_hit {k : Int} {b : List Byte} {i : Nat} (ho : ¬ (pgOut n k ∨ b.length ≠ 4096)) (hf : plFind st.fs k = some i) : plPut n st k b = (0, { st with fs := st.fs.set i { (st.fs.getD i frm0) with b := b, dirty := true, used := true } }) := by unfold plPut; rw [if_neg ho, hf]
theorem plPut_full {k e : Int} {b : List Byte} {st1 : PlSt} (ho : ¬ (pgOut n k ∨ b.length ≠ 4096)) (hf : plFind st.fs k = none) (hr : plRoom n st = ((none, e), st1)) : plPut n st k b = (e, st1) := by unfold plPut; rw [if_neg ho, hf]; simp only [hr]
theorem plPut_new {k e : Int} {b : List Byte} {i : Nat} {st1 : PlSt} (ho : ¬ (pgOut n k ∨ b.length ≠ 4096)) (hf : plFind st.fs k = none) (hr : plRoom n st = ((some i, e), st1)) : plPut n st k b = (0, { st1 with fs := st1.fs.set i ⟨true, k, 0, true, true, b⟩ }) := by unfold plPut; rw [if_neg ho, hf]; simp only [hr]
set_option maxHeartbeats 2000000 in
theorem pl_Put (h : Pol w F G g n gp gf xs hand D) (k : Int) (A : Option Addr) (ca : Nat) (b : List Byte) (hl : b.length ≤ 100000000000) (hrd : Rd w A b) (hA : ∀ ad, A = some ad → ad.block ∉ gp :: gf :: F) :
    Calls Tryd.prog 16 #[.pointer (some ⟨gp, 0, none⟩), .int .i64 k, .slice A b.length ca] w fun e w' => e = .returned (.int .i64 (plPut n (plOf xs hand D) k b).1) ∧ PolR w F G g n gp gf (plPut n (plOf xs hand D) k b).2 w' := by
  have HM := Lib.hid (pl_made h)
  have HRT := Lib.hid (pl_right h k)
  have HFN := Lib.hid (pl_find h k)
  have HRM := Lib.hid (pl_room h)
  have HRC := Lib.hid (plRoom_code n (plOf xs hand D))
  have HRD := Lib.hid (fun (W : World) (t : TS (gp :: gf :: F) w W) => t.rd hrd hA)
  have H := Lib.hid h
  have HL := Lib.hid hl
  obtain ⟨R, hR⟩ : ∃ R, R = plPut n (plOf xs hand D) k b := ⟨_, rfl⟩
  rw [← hR]
  have HR := Lib.hid hR
  clear h hR hrd hA hl
  by_cases ho : pgOut n k
  · have hd : decide (pgOut n k) = true := decide_eq_true ho
    have HQ := Lib.hid (HR.out.trans (plPut_out (.inl ho)))
    clear ho HR
    go_enter Tryd.func16, Tryd.ntmps16
    go_wp2_with fail
    refine HM.out.mono ?_
    rintro e w1 ⟨rfl, rfl⟩
    go_wp2_with fail
    refine HRT.out.mono ?_
    rintro e w1 ⟨rfl, rfl⟩
    go_wp2
    go_ret
    rw [HQ.out]
    exact ⟨rfl, PolR.same H.out⟩
  have hd : decide (pgOut n k) = false := decide_eq_false ho
  by_cases hbl : b.length = 4096
  case neg =>
    have HQ := Lib.hid (HR.out.trans (plPut_out (.inr hbl)))
    clear ho HR
    have hz : ¬ (b.length : Int) = 4096 := by omega
    have hz2 : ((b.length : Int) != 4096) = true := by simpa using hz
    have HBL := Lib.hid hbl
    clear hbl
    go_enter Tryd.func16, Tryd.ntmps16
    go_wp2_with fail
    refine HM.out.mono ?_
    rintro e w1 ⟨rfl, rfl⟩
    go_wp2_with fail
    refine HRT.out.mono ?_
    rintro e w1 ⟨rfl, rfl⟩
    go_wp2
    go_ret
    rw [HQ.out]
    exact ⟨rfl, PolR.same H.out⟩
  have HO := Lib.hid (show ¬ (pgOut n k ∨ b.length ≠ 4096) from fun h => h.elim ho (fun h => h hbl))
  have HBL := Lib.hid hbl
  have hz : (b.length : Int) = 4096 := by omega
  clear ho hbl
  go_enter Tryd.func16, Tryd.ntmps16
  go_wp2_with fail
  refine HM.out.mono ?_
  rintro e w1 ⟨rfl, rfl⟩
  go_wp2_with fail
  refine HRT.out.mono ?_
  rintro e w1 ⟨rfl, rfl⟩
  go_wp2_with fail
  refine HFN.out.mono ?_
  rintro e w1 ⟨rfl, rfl⟩
  clear HFN HRT hd HM hz
  cases hf : plFind (xs.map (·.f)) k with
  | some i =>
    have HI := Lib.hid (show i < xs.length from by have := (plFind_lt hf).1; rwa [List.length_map] at this)
    have hq := HR.out.trans (plPut_hit HO.out (show plFind (plOf xs hand D).fs k = some i from hf))
    rw [plGetS xs hand D i HI.out] at hq
    have HQ := Lib.hid hq
    have HT := Lib.hid (TS.refl (gp :: gf :: F) w)
    clear hf hq HR HRM HRC
    have HX := Lib.hid (sl_Clone b A _ ca w rfl (by rw [HBL.out]; omega) (HRD.out w HT.out))
    simp only [plPtr]
    go_wp2_with fail
    refine HX.out.mono ?_
    rintro e wc ⟨A2, c2, rfl, ho, hb⟩
    have HPC := Lib.hid (H.out.fb hb)
    have HOK := Lib.hid (show FrOk wc F G gp gf ⟨{ (xs[i]'(HI.out)).f with b := b, dirty := true, used := true }, A2, c2⟩ from ⟨ho.info.2.2.1, ho.info.1, ho.info.2.1, fun ad ha => by
      subst ha
      have h1 := ho.bnd ad.block rfl
      have hlt := H.out.lt
      exact ⟨rd_lt ho.info.2.2.1 (fun e => by have := HBL.out; rw [e] at this; cases this), (fun hm => by have := H.out.dsk.lt _ hm; omega), by omega, by omega, fun hm => by have := H.out.glt _ hm; omega⟩, by show b.length ≤ _; rw [HBL.out]; omega⟩)
    have HTC := Lib.hid (HT.out.then (TS.of hb))
    have u5 := HPC.out.fz (i * 6 + 5)
    have u3 := HPC.out.fz (i * 6 + 3)
    have u4 := HPC.out.fz (i * 6 + 4)
    obtain ⟨-, -, -, c3, c4, c5⟩ := HPC.out.cells i HI.out
    have HPZ := Lib.hid (HPC.out.setBDU i HI.out A2 c2 b HOK.out)
    have HTZ := Lib.hid (show TS (gp :: gf :: F) w (((wc.setCell ⟨gf, i * 6 + 5, none⟩ (.slice A2 b.length c2)).setCell ⟨gf, i * 6 + 3, none⟩ (.bool true)).setCell ⟨gf, i * 6 + 4, none⟩ (.bool true)) from HTC.out.then (((TS.tb (TB.set (g := gf) _ _ _) (by simp)).then (TS.tb (TB.set (g := gf) _ _ _) (by simp))).then (TS.tb (TB.set (g := gf) _ _ _) (by simp))))
    have HZM := Lib.hid (show (xs.set i ⟨{ (xs[i]'(HI.out)).f with b := b, dirty := true, used := true }, A2, c2⟩).map (·.f) = (xs.map (·.f)).set i { (xs[i]'(HI.out)).f with b := b, dirty := true, used := true } from by rw [List.map_set])
    clear ho hb HX H HOK HRD
    generalize xs.set i ⟨{ (xs[i]'(HI.out)).f with b := b, dirty := true, used := true }, A2, c2⟩ = vs at *
    generalize xs[i]'(HI.out) = x at *
    go_wp2
    go_ret
    rw [HQ.out]
    exact ⟨rfl, F, vs, HPZ.out, HZM.out, fun _ hx => .inl hx, HTZ.out⟩
  | none =>
    obtain ⟨S, hS⟩ : ∃ S, S = plRoom n (plOf xs hand D) := ⟨_, rfl⟩
    rw [← hS] at HRM HRC
    have HS := Lib.hid hS.symm
    have HF := Lib.hid (show plFind (plOf xs hand D).fs k = none from hf)
    clear hf hS
    obtain ⟨⟨so, se⟩, st1⟩ := S
    simp only [plPtr]
    go_wp2_with fail
    refine HRM.out.mono ?_
    rintro e w1 ⟨rfl, hres, hlt⟩
    obtain ⟨F1, ys, hp1, hys, hin, hts⟩ := hres
    have HP1 := Lib.hid hp1
    have HIN := Lib.hid hin
    have HTS := Lib.hid hts
    have HYS := Lib.hid hys
    have HLT := Lib.hid hlt
    clear hp1 hin hts hys hlt HRM H
    cases so with
    | none =>
      have hse : (se != 0) = true := by have := HRC.out.1 rfl; simpa using this
      have HQ := Lib.hid (HR.out.trans (plPut_full HO.out HF.out HS.out))
      simp only [plPtr]
      clear HR HS HF HRC
      go_wp2
      go_ret
      rw [HQ.out]
      exact ⟨rfl, F1, ys, HP1.out, HYS.out, HIN.out, HTS.out⟩
    | some i =>
      have hse : se = 0 := HRC.out.2 (by simp)
      subst hse
      have HI := Lib.hid (show i < xs.length from HLT.out i rfl)
      have HIY := Lib.hid (show i < ys.length from by have h1 := plRoom_len n (plOf xs hand D); rw [HS.out, ← HYS.out] at h1; simp only [List.length_map, plOf] at h1; rw [h1]; exact HI.out)
      have hq := HR.out.trans (plPut_new HO.out HF.out HS.out)
      obtain ⟨hst, hpw, hmp⟩ := HP1.out.putF i HIY.out ⟨true, k, 0, false, false, []⟩ none 0 (Rd.nil _ _) (Nat.le_refl _) (Nat.zero_le _) (Nat.zero_le _) (fun ad ha => by cases ha)
      have HIZ := Lib.hid (show i < (ys.set i ⟨⟨true, k, 0, false, false, []⟩, none, 0⟩).length from by rw [List.length_set]; exact HIY.out)
      have HZE := Lib.hid (show ((ys.set i ⟨⟨true, k, 0, false, false, []⟩, none, 0⟩)[i]'(HIZ.out)).f = ⟨true, k, 0, false, false, []⟩ from by rw [List.getElem_set_self])
      have HQ := Lib.hid (show R = (0, ⟨((ys.set i ⟨⟨true, k, 0, false, false, []⟩, none, 0⟩).map (·.f)).set i { ((ys.set i ⟨⟨true, k, 0, false, false, []⟩, none, 0⟩)[i]'(HIZ.out)).f with b := b, dirty := true, used := true }, st1.hand, st1.D⟩) from by
        rw [HZE.out, hq, hmp, List.set_set, HYS.out])
      obtain ⟨w3, hw3⟩ : ∃ w3 : World, w3 = w1.setRow gf (frFlat (ys.set i ⟨⟨true, k, 0, false, false, []⟩, none, 0⟩)).toArray := ⟨_, rfl⟩
      rw [← hw3] at hst hpw
      have HP3 := Lib.hid hpw
      have HT3 := Lib.hid (show TS (gp :: gf :: F) w w3 from by rw [hw3]; exact HTS.out.then (TS.row _ gf w1 _ (by simp)))
      generalize ys.set i ⟨⟨true, k, 0, false, false, []⟩, none, 0⟩ = zs at *
      clear hq hw3 hpw hmp HR HS HF HRC HLT HP1 HTS HYS HZE
      replace hst : (Instr.storeAt 85 (.pointer (some ⟨gf, i * 6, none⟩)) (.agg #[.bool true, .int .i64 k, .int .i64 0, .bool false, .bool false, .slice none 0 0])).run Tryd.prog w1 = .ok () w3 := hst
      have HX := Lib.hid (sl_Clone b A _ ca w3 rfl (by rw [HBL.out]; omega) (HRD.out w3 HT3.out))
      simp only [plPtr]
      go_wp2_with (refine wpList_store_by rfl _ _ _ rfl _ hst ?_)
      clear hst
      go_wp2_with fail
      refine HX.out.mono ?_
      rintro e wc ⟨A2, c2, rfl, ho, hb⟩
      have HPC := Lib.hid (HP3.out.fb hb)
      have HOK := Lib.hid (show FrOk wc F1 G gp gf ⟨{ (zs[i]'(HIZ.out)).f with b := b, dirty := true, used := true }, A2, c2⟩ from ⟨ho.info.2.2.1, ho.info.1, ho.info.2.1, fun ad ha => by
        subst ha
        have h1 := ho.bnd ad.block rfl
        have hlt := HP3.out.lt
        exact ⟨rd_lt ho.info.2.2.1 (fun e => by have := HBL.out; rw [e] at this; cases this), (fun hm => by have := HP3.out.dsk.lt _ hm; omega), by omega, by omega, fun hm => by have := HP3.out.glt _ hm; omega⟩, by show b.length ≤ _; rw [HBL.out]; omega⟩)
      have HTC := Lib.hid (HT3.out.then (TS.of hb))
      have u5 := HPC.out.fz (i * 6 + 5)
      have u3 := HPC.out.fz (i * 6 + 3)
      have u4 := HPC.out.fz (i * 6 + 4)
      obtain ⟨-, -, -, c3, c4, c5⟩ := HPC.out.cells i HIZ.out
      have HPZ := Lib.hid (HPC.out.setBDU i HIZ.out A2 c2 b HOK.out)
      have HTZ := Lib.hid (show TS (gp :: gf :: F) w (((wc.setCell ⟨gf, i * 6 + 5, none⟩ (.slice A2 b.length c2)).setCell ⟨gf, i * 6 + 3, none⟩ (.bool true)).setCell ⟨gf, i * 6 + 4, none⟩ (.bool true)) from HTC.out.then (((TS.tb (TB.set (g := gf) _ _ _) (by simp)).then (TS.tb (TB.set (g := gf) _ _ _) (by simp))).then (TS.tb (TB.set (g := gf) _ _ _) (by simp))))
      have HZM := Lib.hid (show (zs.set i ⟨{ (zs[i]'(HIZ.out)).f with b := b, dirty := true, used := true }, A2, c2⟩).map (·.f) = (zs.map (·.f)).set i { (zs[i]'(HIZ.out)).f with b := b, dirty := true, used := true } from by rw [List.map_set])
      clear ho hb HX HP3 HOK HRD
      generalize zs.set i ⟨{ (zs[i]'(HIZ.out)).f with b := b, dirty := true, used := true }, A2, c2⟩ = vs at *
      generalize zs[i]'(HIZ.out) = x at *
      go_wp2
      go_ret
      rw [HQ.out]
      exact ⟨rfl, F1, vs, HPZ.out, HZM.out, HIN.out, HTZ.out⟩
/-- Flush. -/
def plFlush (n : Nat) (st : PlSt) : Int × PlSt :=
  if (plClean n st).1 = 0 then ((sdFlush (plClean n st).2.D).1, { (plClean n st).2 with D := (sdFlush (plClean n st).2.D).2 }) else plClean n st
end
end Go.Proofs.YtoidlmhebnlnbaaDoor
/- pool: the walks through Reset, New, Frames. -/
set_option linter.unusedVariables false
set_option linter.unusedSimpArgs false
namespace Go.Proofs.YtoidlmhebnlnbaaDoor
open Go.ChangeShapes Go.WideShapes Go.ChangeAt Go.RowKit
attribute [local go_sem] nb_nonneg nb_lt8 nb_lt64
set_option maxRecDepth 100000

theorem cl_list {P : Program} {ops : Array Oper} {rest : List Oper} {o : Oper} {a : Act} {w : World} {Q : Exit → Act → World → Prop} (hgd : o.guard = none) (x : Operand) (t : TypeId)
    (ho : o.op = .call { callee := .builtin .clear, args := #[x], argTypes := #[t] }) (v : Value) (hx : a.eval x = v) {v' : Value} {w' : World}
    (hr : ∀ ty, (Builtin.clear_ #[t] ty #[v]).run P w = .ok v' w') (h : wpList P ops Q rest (a.put o.dst v') w') : wpList P ops Q (o :: rest) a w :=
  wpList_plain hgd fun _ hK => by
    unfold Oper.wp execOp
    simp only [ho, resolve, invoke, builtin, Sem.run_bind, Sem.run_pure, Result.andThen_ok, List.map_toArray, List.map_cons, List.map_nil, hx, hr]
    exact hK _ _ h
theorem info_fr : (Tryd.prog.info? 85).map (fun i => (i.zero, i.size, i.bytes)) = some (some (.agg #[.bool false, .int .i64 0, .int .i64 0, .bool false, .bool false, .slice none 0 0]), 6, 56) := by kernel_rfl
theorem info_af : (Tryd.prog.info? 83).map (fun i => (i.zero, i.size, i.bytes)) = some (some (.agg #[.bool false, .int .i64 0, .int .i64 0, .bool false, .bool false]), 5, 32) := by kernel_rfl
def fr0s : Array Value := #[.bool false, .int .i64 0, .int .i64 0, .bool false, .bool false, .slice none 0 0]
theorem fr_made (n : Nat) : (madeCells fr0s (n * 6)).toList = frFlat (List.replicate n frx0) := by
  apply List.ext_getElem?
  intro k
  by_cases hk : k < n * 6
  · have h1 := frFlat_get (List.replicate n frx0) (k / 6) (by rw [List.length_replicate]; omega) (k % 6) (by omega)
    rw [show k / 6 * 6 + k % 6 = k by omega, List.getElem_replicate] at h1
    rw [h1]
    unfold madeCells
    have h6 : k % 6 < 6 := by omega
    generalize hr : k % 6 = r at *
    simp only [Array.toList_map, Array.toList_range, List.getElem?_map, List.getElem?_range hk, Option.map_some]
    rw [show fr0s.size = 6 from rfl, hr]
    have : r = 0 ∨ r = 1 ∨ r = 2 ∨ r = 3 ∨ r = 4 ∨ r = 5 := by omega
    rcases this with rfl | rfl | rfl | rfl | rfl | rfl <;> rfl
  · rw [List.getElem?_eq_none (by rw [Array.length_toList, size_madeCells]; omega), List.getElem?_eq_none (by rw [frFlat_len, List.length_replicate]; omega)]
theorem zeroCells_made (z : Array Value) (n : Nat) : Builtin.zeroCells z n = madeCells z (n * z.size) := by simp [Builtin.zeroCells, madeCells]
section
variable {w w' w1 w2 : World} {F G : List Nat} {g n gp gf hand : Nat} {xs : List FrX} {D : DiskSt} {st st' : PlSt}
/-- All frames are written. -/
theorem Pol.zeroAll (h : Pol w F G g n gp gf xs hand D) :
    (∀ ty, (Builtin.clear_ #[74] ty #[.slice (some ⟨gf, 0, none⟩) xs.length xs.length]).run Tryd.prog w = .ok (.tuple #[]) (w.setRow gf (frFlat (List.replicate xs.length frx0)).toArray)) ∧
      Pol (w.setRow gf (frFlat (List.replicate xs.length frx0)).toArray) F G g n gp gf (List.replicate xs.length frx0) hand D := by
  obtain ⟨i, hi, hz, hsize, hby⟩ := info_parts info_fr
  have hl0 := h.hl
  constructor
  · intro ty
    obtain ⟨m, hm⟩ : ∃ m, xs.length = m + 1 := ⟨xs.length - 1, by omega⟩
    have one : ∀ v ∈ (madeCells fr0s (xs.length * 6)).toList, v.oneCell' = true := by
      rw [fr_made]
      intro v hv
      unfold frFlat at hv
      obtain ⟨x, hx, hv⟩ := List.mem_flatMap.1 hv
      rw [List.eq_of_mem_replicate hx] at hv
      unfold frCs at hv
      simp only [List.mem_cons, List.not_mem_nil, or_false] at hv
      rcases hv with rfl | rfl | rfl | rfl | rfl | rfl <;> rfl
    have hst := run_storeCells_at (P := Tryd.prog) gf 0 85 (madeCells fr0s (xs.length * 6)).toList 0 (frFlat xs).toArray w h.frow (by rw [Array.length_toList, size_madeCells, List.size_toArray, frFlat_len]; omega) one
    have e0 : ((frFlat xs).toArray.toList.take (0 + 0) ++ (madeCells fr0s (xs.length * 6)).toList ++ (frFlat xs).toArray.toList.drop (0 + 0 + (madeCells fr0s (xs.length * 6)).toList.length)) = frFlat (List.replicate xs.length frx0) := by
      rw [fr_made]
      have : (frFlat (List.replicate xs.length frx0)).length = xs.length * 6 := by rw [frFlat_len, List.length_replicate]
      simp [this, frFlat_len]
    rw [e0] at hst
    have hzc : (Builtin.zeroCells (Value.cells (.agg #[.bool false, .int .i64 0, .int .i64 0, .bool false, .bool false, .slice none 0 0])) xs.length).toList = (madeCells fr0s (xs.length * 6)).toList := by
      rw [zeroCells_made]; rfl
    rw [← hzc] at hst
    rw [hm] at hst ⊢
    simp [Builtin.clear_, run_underlying Tryd.underlying74, zeroValue, typeInfo, hi, hz, hst]
  · have k : TB gf w (w.setRow gf (frFlat (List.replicate xs.length frx0)).toArray) := ⟨rfl, rfl, rfl, by simp, fun k _ hk => setRow_other w gf k _ (fun e => hk (by simp [e]))⟩
    have ks := TS.tb (F := [gf]) k (by simp)
    refine ⟨h.dsk.ts ks (fun y hy hm => by simp at hy; subst hy; exact h.ne.2.2 hm), ?_, setRow_heap w gf _ _ _ _ h.frow, fun y hy => ?_, fun y hy => ?_, h.ne, by rw [List.length_replicate]; exact h.hl, by rw [List.length_replicate]; exact h.n256, fun b hb => Nat.lt_of_lt_of_le (h.glt b hb) ks.size⟩
    · rw [List.length_replicate]
      exact (ks.block _ h.lt.1 (by simp; exact h.ne.1)).trans h.prow
    · rw [List.eq_of_mem_replicate hy]
      have := frx0_ok (w.setRow gf (frFlat (List.replicate xs.length frx0)).toArray) F G gp gf
      exact ⟨this.1, this.2.1, this.2.2.1, this.2.2.2.1⟩
    · rw [List.eq_of_mem_replicate hy]; exact (frx0_ok w F G gp gf).2.2.2.2
end
end Go.Proofs.YtoidlmhebnlnbaaDoor
/- pool: the walks through New, Frames. -/
set_option linter.unusedVariables false
set_option linter.unusedSimpArgs false
namespace Go.Proofs.YtoidlmhebnlnbaaDoor
open Go.ChangeShapes Go.WideShapes Go.ChangeAt Go.RowKit
attribute [local go_sem] nb_nonneg nb_lt8 nb_lt64
set_option maxRecDepth 100000

theorem mk_frames (k : Nat) (hk : k ≤ 256) : ∃ C : Array Value,
    (∀ W : World, (Instr.makeSlice 74 (.int .i64 k) (.int .i64 k)).run Tryd.prog W = .ok (.slice (some ⟨W.heap.size, 0, none⟩) k k) (W.alloc (.cells C 85))) ∧
    C = (frFlat (List.replicate k frx0)).toArray := by
  obtain ⟨i, hi, hz, hsz, hb⟩ := info_parts info_fr
  refine ⟨madeCells fr0s (k * 6), fun W => ?_, ?_⟩
  · have h := run_make (P := Tryd.prog) W 74 85 i _ Tryd.underlying74 hi hz .i64 .i64 (k : Int) (k : Int) (by omega) (Int.le_refl _) (by rw [hb]; omega) (by omega)
    rw [hsz] at h
    simpa [Value.cells, fr0s] using h
  · rw [← fr_made]
section
variable {w w' w1 w2 : World} {F G : List Nat} {g n gp gf hand : Nat} {xs : List FrX} {D : DiskSt} {st st' : PlSt}
def plBad (n : Nat) (k : Int) : Prop := n / 8 = 0 ∨ k < 8 ∨ 256 < k
set_option maxHeartbeats 1000000 in
theorem pl_New_nil (k : Int) (w : World) :
    Calls Tryd.prog 10 #[.pointer none, .int .i64 k] w fun e w' => e = .returned (.tuple #[.pointer none, .int .i64 1]) ∧ w = w' := by
  go_enter Tryd.func10, Tryd.ntmps10
  go_wp2
  go_ret2
  exact ⟨rfl, rfl⟩
set_option maxHeartbeats 1000000 in
theorem pl_New_arg (h : Dsk w F g n D) (k : Int) (hk : plBad n k) :
    Calls Tryd.prog 10 #[.pointer (some ⟨g, 0, none⟩), .int .i64 k] w fun e w' => e = .returned (.tuple #[.pointer none, .int .i64 2]) ∧ w = w' := by
  have HS := Lib.hid (dsk_Sectors h)
  have HP := Lib.hid (pg_Pages h)
  have hn0 : ((n : Int) == 0) = false := by have := h.ok.n1; rw [beq_eq_false_iff_ne]; omega
  have hn1 : ¬ (n : Int) = 0 := by have := h.ok.n1; omega
  clear h
  go_enter Tryd.func10, Tryd.ntmps10
  go_wp2_with fail
  refine HS.out.mono ?_
  rintro e w1 ⟨rfl, rfl⟩
  go_wp2_with fail
  refine HP.out.mono ?_
  rintro e w1 ⟨rfl, rfl⟩
  unfold plBad at hk
  generalize n / 8 = m at *
  by_cases h1 : m = 0
  · subst h1
    clear hk
    go_wp2
    go_ret2
    exact ⟨rfl, rfl⟩
  have hm0 : ((m : Int) == 0) = false := by rw [beq_eq_false_iff_ne]; omega
  have hm1 : ¬ (m : Int) = 0 := by omega
  by_cases h2 : k < 8
  · clear hk h1
    go_wp2
    go_ret2
    exact ⟨rfl, rfl⟩
  have h3 : 256 < k := by omega
  clear hk h1
  go_wp2
  go_ret2
  exact ⟨rfl, rfl⟩
set_option maxHeartbeats 1000000 in
theorem pl_New_ok (h : Dsk w F g n D) (k : Nat) (hn : 1 ≤ n / 8) (h8 : 8 ≤ k) (h256 : k ≤ 256) :
    Calls Tryd.prog 10 #[.pointer (some ⟨g, 0, none⟩), .int .i64 k] w fun e w' => ∃ gp gf, e = .returned (.tuple #[.pointer (some ⟨gp, 0, none⟩), .int .i64 0]) ∧ Pol w' F [] g n gp gf (List.replicate k frx0) 0 D ∧ FB w w' ∧ w.heap.size ≤ gp ∧ w.heap.size ≤ gf := by
  have HS := Lib.hid (dsk_Sectors h)
  have HP := Lib.hid (pg_Pages h)
  have hn0 : ((n : Int) == 0) = false := by have := h.ok.n1; rw [beq_eq_false_iff_ne]; omega
  have hn1 : ¬ (n : Int) = 0 := by have := h.ok.n1; omega
  have hm0 : (((n / 8 : Nat) : Int) == 0) = false := by rw [beq_eq_false_iff_ne]; omega
  have hm1 : ¬ ((n / 8 : Nat) : Int) = 0 := by omega
  have h2 : ¬ (k : Int) < 8 := by omega
  have h3 : ¬ 256 < (k : Int) := by omega
  obtain ⟨C, hmk, hC⟩ := mk_frames k h256
  have HC := Lib.hid hC
  have H := Lib.hid h
  have HK := Lib.hid (And.intro h8 h256)
  clear h hC
  go_enter Tryd.func10, Tryd.ntmps10
  go_wp2_with fail
  refine HS.out.mono ?_
  rintro e w1 ⟨rfl, rfl⟩
  go_wp2_with fail
  refine HP.out.mono ?_
  rintro e w1 ⟨rfl, rfl⟩
  generalize n / 8 = m at *
  go_wp2
  go_ret2
  have hf1 := (FB.refl w).alloc (.cells C 85)
  have hf2 := hf1.alloc (.cells #[.pointer (some ⟨g, 0, none⟩), .slice (some ⟨w.heap.size, 0, none⟩) k k, .int .i64 0] 76)
  have hnF : ∀ x ∈ F, x < w.heap.size := H.out.lt
  refine ⟨w.heap.size + 1, w.heap.size, ?_, ⟨H.out.fb hf2, ?_, ?_, fun x hx => ?_, fun x hx => ?_, ⟨by omega, fun hm => by have := hnF _ hm; omega, fun hm => by have := hnF _ hm; omega⟩, by rw [List.length_replicate]; have := HK.out; omega, by rw [List.length_replicate]; exact HK.out.2, fun b hb => by cases hb⟩, hf2, by omega, by omega⟩
  · simp
  · have := heap_alloc_new (w.alloc (.cells C 85)) (.cells #[.pointer (some ⟨g, 0, none⟩), .slice (some ⟨w.heap.size, 0, none⟩) k k, .int .i64 0] 76)
    rw [List.length_replicate]
    simpa using this
  · have := heap_alloc_old (w.alloc (.cells C 85)) (.cells #[.pointer (some ⟨g, 0, none⟩), .slice (some ⟨w.heap.size, 0, none⟩) k k, .int .i64 0] 76) (show w.heap.size < _ from by simp)
    rw [this, ← HC.out]
    exact heap_alloc_new _ _
  · rw [List.eq_of_mem_replicate hx]
    have := frx0_ok w F [] 0 0
    exact ⟨Rd.nil _ _, this.2.1, this.2.2.1, (fun ad ha => by cases ha)⟩
  · rw [List.eq_of_mem_replicate hx]; exact (frx0_ok w F [] 0 0).2.2.2.2
/-- What Frames returns: five cells a frame. -/
def afCs (f : Frm) : List Value := [.bool f.is, .int .i64 f.pg, .int .i64 f.pins, .bool f.dirty, .bool f.used]
theorem afCs_len (fs : List Frm) : (fs.flatMap afCs).length = fs.length * 5 := by
  induction fs with
  | nil => rfl
  | cons x xs ih => rw [List.flatMap_cons, List.length_append, ih, List.length_cons]; simp [afCs]; omega
theorem apf_list {ops : Array Oper} {rest : List Oper} {o : Oper} {a : Act} {w : World} {Q : Exit → Act → World → Prop} (hgd : o.guard = none) (s x : Operand)
    (ho : o.op = .call { callee := .builtin .append, args := #[s, x], argTypes := #[63, 63] })
    (base : Nat) (v : Value) (k : Nat) (fs : List Frm) (hown : w.ownsRow base 83 5 v k (fs.flatMap afCs)) (hs : a.eval s = v) (gb : Nat) (f : Frm) (hx : a.eval x = .slice (some ⟨gb, 0, none⟩) 1 1)
    (hb : w.heap[gb]? = some (.cells #[.bool f.is, .int .i64 f.pg, .int .i64 f.pins, .bool f.dirty, .bool f.used] 83 (0, 0))) (hk : k ≤ 256) (hbase : base ≤ w.heap.size)
    (h : ∀ v' w', w'.ownsRow base 83 5 v' (k + 1) ((fs ++ [f]).flatMap afCs) → w.grownBy w' v.ownBlock → wpList Tryd.prog ops Q rest (a.put o.dst v') w') : wpList Tryd.prog ops Q (o :: rest) a w := by
  obtain ⟨i, hi, hz, hsz, hby⟩ := info_parts info_af
  refine wpList_append_own w hgd s x 63 ho base 83 i _ 5 32 Tryd.underlying63 hi hz hsz hby rfl (by omega) v k _ hs hown ⟨gb, 0, none⟩ 1 1 (afCs f) hx rfl ?_ ?_ (by rw [maxLen_eq]; omega) (by omega) hbase fun v' w' h1 h2 _ => h v' w' (by rw [List.flatMap_append]; simpa using h1) h2
  · intro j u hu
    rw [show (⟨gb, 0, none⟩ : Addr).add j = ⟨gb, j, none⟩ from by unfold Addr.add; split <;> simp_all, cell_of_row _ _ _ _ _ _ hb]
    show (List.toArray (afCs f))[j]? = some u
    rw [List.getElem?_toArray]
    exact hu
  · intro u hu
    unfold afCs at hu
    simp only [List.mem_cons, List.not_mem_nil, or_false] at hu
    rcases hu with rfl | rfl | rfl | rfl | rfl <;> rfl
set_option maxHeartbeats 2000000 in
theorem pl_Frames (h : Pol w F G g n gp gf xs hand D) :
    Calls Tryd.prog 26 #[.pointer (some ⟨gp, 0, none⟩)] w fun e w' => ∃ v, e = .returned v ∧ w'.ownsRow w.heap.size 83 5 v xs.length ((xs.map (·.f)).flatMap afCs) ∧ FB w w' := by
  have HM := Lib.hid (pl_made h)
  obtain ⟨p0, p1, p2⟩ := h.pcells
  have H := Lib.hid h
  have HN := Lib.hid h.n256
  clear h
  go_enter Tryd.func26, Tryd.ntmps26
  go_wp2_with fail
  refine HM.out.mono ?_
  rintro e w1 ⟨rfl, rfl⟩
  go_wp2_with fail
  clear p0 p1 p2 HM
  go_loopw [2, 4, 13] (fun v _ i wr => ∃ (j : Nat), j ≤ xs.length ∧ i = .int .i64 j ∧ Hid (wr.ownsRow w.heap.size 83 5 v j (((xs.map (·.f)).take j).flatMap afCs)) ∧ Hid (FB w wr)) (fun _ _ i _ => xs.length - (intOf i).toNat)
  case atStart => exact ⟨0, by omega, rfl, Lib.hid (World.ownsRow_nil _ _ _ _), Lib.hid (FB.refl _)⟩
  case round =>
    obtain ⟨j, hj, rfl, HO, HF⟩ := hrel
    by_cases hlt : j < xs.length
    · have hz : (j : Int) < (xs.length : Int) := by omega
      have HJ := Lib.hid hlt
      have hwk : IntKind.i64.wrap ((j : Int) + 1) = (j : Int) + 1 := by rw [IntKind.wrap_i64]; have := HN.out; omega
      have HP := Lib.hid (H.out.fb HF.out)
      obtain ⟨c0, c1, c2, c3, c4, c5⟩ := HP.out.cells j HJ.out
      have HX := Lib.hid (show (xs.map (·.f)).take (j + 1) = (xs.map (·.f)).take j ++ [(xs[j]'(HJ.out)).f] from by
        rw [List.take_add_one, List.getElem?_map, List.getElem?_eq_getElem HJ.out]; rfl)
      generalize xs[j]'(HJ.out) = x at *
      clear hlt hj H
      have HO2 := Lib.hid (fun (o1 o2 : Obj) => (HO.out.alloc o1).alloc o2)
      have HF2 := Lib.hid (fun (o1 o2 : Obj) => (HF.out.alloc o1).alloc o2)
      have HNB := Lib.hid (fun (o1 o2 : Obj) => show ((wr.alloc o1).alloc o2).heap[wr.heap.size + 1]? = some o2 from by have := heap_alloc_new (wr.alloc o1) o2; simpa using this)
      have HOV := Lib.hid (fun kk hk => (HO.out.lt kk hk).1)
      go_wp2_with (at_builtin; refine apf_list rfl _ _ rfl w.heap.size _ j ((xs.map (·.f)).take j) (HO2.out _ _) rfl (wr.heap.size + 1) x.f rfl (HNB.out _ _) (by have := HJ.out; have := HN.out; omega) (by have := HF.out.le; simp; omega) ?_; intro v' w3 ho hg; have HO3 := Lib.hid ho; have HG := Lib.hid hg; clear ho hg)
      have HF3 := Lib.hid ((HF2.out _ _).grown HG.out HOV.out)
      go_roundw
      case rel => exact ⟨j + 1, by have := HJ.out; omega, by go_num, by rw [HX.out]; exact HO3, HF3⟩
      case measure => (show xs.length - ((j : Int) + 1).toNat < xs.length - ((j : Int)).toNat; have := HJ.out; omega)
    · have hz : ¬ (j : Int) < (xs.length : Int) := by omega
      have HE := Lib.hid (show j = xs.length from by omega)
      clear hlt hj
      go_wp2
      go_ret
      have ho := HO.out
      rw [HE.out] at ho
      rw [List.take_of_length_le (by rw [List.length_map]; omega)] at ho
      exact ⟨_, rfl, ho, HF.out⟩
end
end Go.Proofs.YtoidlmhebnlnbaaDoor
