/- pool: the walks through get, Get, Pin. -/
import Derived.Test.YtoidlmhebnlnbaaPlC
set_option linter.unusedVariables false
set_option linter.unusedSimpArgs false
namespace Go.Proofs.Ytoidlmhebnlnbaa
open Go.ChangeShapes Go.WideShapes Go.ChangeAt Go.RowKit
attribute [local go_sem] nb_nonneg nb_lt8 nb_lt64
set_option maxRecDepth 100000

theorem plFind_lt {fs : List Frm} {k : Int} {i : Nat} (h : plFind fs k = some i) : i < fs.length ∧ plHas (fs.getD i frm0) k = true := by
  have := plIx_some h
  exact ⟨by omega, by simpa using this.2.2⟩
theorem plEmpty_lt {fs : List Frm} {i : Nat} (h : plEmpty fs = some i) : i < fs.length := by have := plIx_some h; omega
theorem plRound_len (n : Nat) : ∀ (k : Nat) (st : PlSt), (plRound n k st).2.fs.length = st.fs.length := by
  intro k
  induction k with
  | zero => intro st; rfl
  | succ k ih =>
    intro st
    rw [plRound]
    split
    · exact ih _
    · split
      · rw [ih]; simp
      · split <;> simp
theorem plRoom_len (n : Nat) (st : PlSt) : (plRoom n st).2.fs.length = st.fs.length := by
  unfold plRoom
  split
  · rfl
  · exact plRound_len _ _ _
section
variable {w w' w1 w2 : World} {F : List Nat} {g n gp gf hand : Nat} {xs : List FrX} {D : DiskSt} {st st' : PlSt}
theorem PolR.same (h : Pol w F g n gp gf xs hand D) : PolR w F g n gp gf (plOf xs hand D) w := ⟨F, xs, h, rfl, fun _ hx => .inl hx, TS.refl _ _⟩
theorem PolR.of (h : Pol w' F g n gp gf xs hand D) (t : TS (gp :: gf :: F) w w') : PolR w F g n gp gf (plOf xs hand D) w' := ⟨F, xs, h, rfl, fun _ hx => .inl hx, t⟩
theorem PolR.of2 {F' : List Nat} (h : Pol w' F' g n gp gf xs hand D) (hf : ∀ x ∈ F', x ∈ F ∨ w.heap.size ≤ x) (t : TS (gp :: gf :: F) w w') : PolR w F g n gp gf (plOf xs hand D) w' := ⟨F', xs, h, rfl, hf, t⟩
/-- A call behind another one. -/
theorem PolR.after {F' : List Nat} (hf : ∀ x ∈ F', x ∈ F ∨ w.heap.size ≤ x) (t : TS (gp :: gf :: F) w w1) (h : PolR w1 F' g n gp gf st w2) : PolR w F g n gp gf st w2 := by
  obtain ⟨F2, ys, h1, h2, h3, h4⟩ := h
  refine ⟨F2, ys, h1, h2, fun x hx => ?_, t.trans h4 (fun x hx => ?_)⟩
  · rcases h3 x hx with h | h
    · exact hf x h
    · exact .inr (Nat.le_trans t.size h)
  · rcases List.mem_cons.1 hx with rfl | hx
    · exact .inl (by simp)
    · rcases List.mem_cons.1 hx with rfl | hx
      · exact .inl (by simp)
      · exact (hf x hx).imp (fun h => List.mem_cons_of_mem _ (List.mem_cons_of_mem _ h)) id
theorem PolR.len (h : PolR w F g n gp gf st w') : ∃ F' ys, Pol w' F' g n gp gf ys st.hand st.D ∧ ys.map (·.f) = st.fs ∧ ys.length = st.fs.length ∧ (∀ x ∈ F', x ∈ F ∨ w.heap.size ≤ x) ∧ TS (gp :: gf :: F) w w' := by
  obtain ⟨F2, ys, h1, h2, h3, h4⟩ := h
  exact ⟨F2, ys, h1, h2, by rw [← h2, List.length_map], h3, h4⟩
theorem plOf_eta {ys : List FrX} {st : PlSt} (h : ys.map (·.f) = st.fs) : plOf ys st.hand st.D = st := by unfold plOf; rw [h]
/-- One cell of a frame is written. -/
theorem Pol.setU (h : Pol w F g n gp gf xs hand D) (i : Nat) (hi : i < xs.length) :
    ∃ ys, Pol (w.setCell ⟨gf, i * 6 + 4, none⟩ (.bool true)) F g n gp gf ys hand D ∧ ys.map (·.f) = (xs.map (·.f)).set i { ((xs.map (·.f)).getD i frm0) with used := true } := by
  refine ⟨_, h.set1 i hi 4 (by omega) (.bool true) { xs[i].f with used := true } rfl rfl, ?_⟩
  rw [List.map_set, plGetD xs i hi]
theorem Pol.fz (h : Pol w F g n gp gf xs hand D) (j : Nat) : w.frozen? ⟨gf, j, none⟩ = false := frozen_row _ h.frow j
/-- A frame of the pool's own bytes. -/
theorem Pol.putF (h : Pol w F g n gp gf xs hand D) (i : Nat) (hi : i < xs.length) (f : Frm) (A : Option Addr) (c : Nat) (hr : Rd w A f.b) (hc : f.b.length ≤ c) (hm : c ≤ maxLen) (hb : f.b.length ≤ 100000000000)
    (hA : ∀ ad, A = some ad → ad.block < w.heap.size ∧ ad.block ∉ F ∧ ad.block ≠ gp ∧ ad.block ≠ gf) :
    (Instr.storeAt 63 (.pointer (some ⟨gf, i * 6, none⟩)) (.agg #[.bool f.is, .int .i64 f.pg, .int .i64 f.pins, .bool f.dirty, .bool f.used, .slice A f.b.length c])).run Try.prog w = .ok () (w.setRow gf (frFlat (xs.set i ⟨f, A, c⟩)).toArray) ∧
      Pol (w.setRow gf (frFlat (xs.set i ⟨f, A, c⟩)).toArray) F g n gp gf (xs.set i ⟨f, A, c⟩) hand D ∧ (xs.set i ⟨f, A, c⟩).map (·.f) = (xs.map (·.f)).set i f :=
  ⟨h.storeF i hi ⟨f, A, c⟩, h.wholeF i ⟨f, A, c⟩ ⟨hr, hc, hm, hA, hb⟩, by rw [List.map_set]⟩
theorem sdRead_512 {D : DiskSt} (hb : D.b.length = 512 * n) (hM : ∀ p ∈ D.M, p.2.length = 512) (k : Int) : ((sdRead D n k).2.1 = 0 → (sdRead D n k).1.length = 512) ∧ (sdRead D n k).2.2.b = D.b ∧ (sdRead D n k).2.2.M = D.M := by
  unfold sdRead
  split
  · exact ⟨fun h => by simp at h, rfl, rfl⟩
  · rename_i hk
    split
    · exact ⟨fun h => by simp at h, rfl, rfl⟩
    · refine ⟨fun _ => ?_, rfl, rfl⟩
      simp only
      cases hc : cget D.M k with
      | none =>
        show (sec D.b k.toNat).length = 512
        unfold sec
        rw [List.length_take, List.length_drop, hb]
        omega
      | some x =>
        have h1 := hM
        clear hM
        show x.length = 512
        revert hc h1
        generalize D.M = M
        intro h1 hc
        induction M with
        | nil => cases h1
        | cons p M ih =>
          obtain ⟨k', v⟩ := p
          rw [cget] at h1
          split at h1
          · cases h1; exact hc (k', x) (by simp)
          · exact ih h1 (fun p hp => hc p (by simp [hp]))
theorem ldF_len (k : Int) : ∀ (r i : Nat) (out : List Byte) (D : DiskSt), D.b.length = 512 * n → (∀ p ∈ D.M, p.2.length = 512) → (ldF n k r i out D).2.1 = 0 → (ldF n k r i out D).1.length = out.length + 512 * r := by
  intro r
  induction r with
  | zero => intro i out D _ _ _; rfl
  | succ r ih =>
    intro i out D hb hM h
    obtain ⟨h1, h2, h3⟩ := sdRead_512 (n := n) hb hM (k * 8 + i)
    rw [ldF] at h ⊢
    by_cases hc : (sdRead D n (k * 8 + i)).2.1 = 0
    · rw [if_pos hc] at h ⊢
      rw [ih (i + 1) _ _ (by rw [h2]; exact hb) (by rw [h3]; exact hM) h, List.length_append, h1 hc]
      omega
    · rw [if_neg hc] at h
      exact absurd h hc
theorem sdLoad_len {D : DiskSt} (hD : D.ok n) (k : Int) (h : (sdLoad D n k).2.1 = 0) : (sdLoad D n k).1.length = 4096 := by
  unfold sdLoad at h ⊢
  split at h
  · simp at h
  · rename_i ho
    rw [if_neg ho, ldF_len k 8 0 [] D hD.len (fun p hp => (hD.M p hp).2.2) h]
    rfl
theorem plRound_code {D : DiskSt} (n : Nat) : ∀ (k : Nat) (st : PlSt), ((plRound n k st).1.1 = none → (plRound n k st).1.2 ≠ 0) ∧ ((plRound n k st).1.1 ≠ none → (plRound n k st).1.2 = 0) := by
  intro k
  induction k with
  | zero => intro st; exact ⟨fun _ => by show (9 : Int) ≠ 0; decide, fun h => absurd rfl h⟩
  | succ k ih =>
    intro st
    rw [plRound]
    split
    · exact ih _
    · split
      · exact ih _
      · split
        · exact ⟨(fun h => by cases h), fun _ => rfl⟩
        · rename_i h; exact ⟨fun _ => h, fun h2 => absurd rfl h2⟩
theorem plRoom_code (n : Nat) (st : PlSt) : ((plRoom n st).1.1 = none → (plRoom n st).1.2 ≠ 0) ∧ ((plRoom n st).1.1 ≠ none → (plRoom n st).1.2 = 0) := by
  unfold plRoom
  split
  · exact ⟨(fun h => by cases h), fun _ => rfl⟩
  · exact plRound_code (D := st.D) n _ _
theorem plGet_out {k : Int} (ho : pgOut n k) : plGet n st k = ((none, 2), st) := by unfold plGet; rw [if_pos ho]
theorem plGet_hit {k : Int} {i : Nat} (ho : ¬ pgOut n k) (hf : plFind st.fs k = some i) : plGet n st k = ((some i, 0), { st with fs := st.fs.set i { (st.fs.getD i frm0) with used := true } }) := by unfold plGet; rw [if_neg ho, hf]
theorem plGet_full {k e : Int} {st1 : PlSt} (ho : ¬ pgOut n k) (hf : plFind st.fs k = none) (hr : plRoom n st = ((none, e), st1)) : plGet n st k = ((none, e), st1) := by unfold plGet; rw [if_neg ho, hf]; simp only [hr]
theorem plGet_load {k e : Int} {i : Nat} {st1 : PlSt} (ho : ¬ pgOut n k) (hf : plFind st.fs k = none) (hr : plRoom n st = ((some i, e), st1)) :
    plGet n st k = if (sdLoad st1.D n k).2.1 = 0 then ((some i, 0), ⟨st1.fs.set i ⟨true, k, 0, false, true, (sdLoad st1.D n k).1⟩, st1.hand, (sdLoad st1.D n k).2.2⟩) else ((none, (sdLoad st1.D n k).2.1), { st1 with D := (sdLoad st1.D n k).2.2 }) := by unfold plGet; rw [if_neg ho, hf]; simp only [hr]
theorem rd_lt {W : World} {ad : Addr} {b : List Byte} (h : Rd W (some ad) b) (hb : b ≠ []) : ad.block < W.heap.size := by
  obtain ⟨b0, o, e, hlt, -⟩ := RdV.form h (by rw [vbs_length]; exact List.length_pos_iff.2 hb)
  cases e
  exact hlt
set_option maxHeartbeats 2000000 in
theorem pl_get (h : Pol w F g n gp gf xs hand D) (k : Int) :
    Calls Try.prog 29 #[.pointer (some ⟨gp, 0, none⟩), .int .i64 k] w fun e w' => e = .returned (.tuple #[plPtr gf (plGet n (plOf xs hand D) k).1.1, .int .i64 (plGet n (plOf xs hand D) k).1.2]) ∧ PolR w F g n gp gf (plGet n (plOf xs hand D) k).2 w' ∧ ∀ i, (plGet n (plOf xs hand D) k).1.1 = some i → i < xs.length := by
  have H := Lib.hid h
  have HRT := Lib.hid (pl_right h k)
  have HFN := Lib.hid (pl_find h k)
  obtain ⟨R, hR⟩ : ∃ R, R = plGet n (plOf xs hand D) k := ⟨_, rfl⟩
  rw [← hR]
  have HR := Lib.hid hR
  clear h hR
  go_enter Try.func29, Try.ntmps29
  go_wp2_with fail
  refine HRT.out.mono ?_
  rintro e w1 ⟨rfl, rfl⟩
  by_cases ho : pgOut n k
  · have hd : decide (pgOut n k) = true := decide_eq_true ho
    have HQ := Lib.hid (HR.out.trans (plGet_out ho))
    clear ho
    go_wp2
    go_ret2
    rw [HQ.out]
    exact ⟨rfl, PolR.same H.out, (fun i hi => by cases hi)⟩
  have hd : decide (pgOut n k) = false := decide_eq_false ho
  have HO := Lib.hid ho
  clear ho
  go_wp2_with fail
  refine HFN.out.mono ?_
  rintro e w1 ⟨rfl, rfl⟩
  clear HFN HRT hd
  cases hf : plFind (xs.map (·.f)) k with
  | some i =>
    have hi : i < xs.length := by have := (plFind_lt hf).1; rwa [List.length_map] at this
    have HI := Lib.hid hi
    have hq := HR.out.trans (plGet_hit HO.out (show plFind (plOf xs hand D).fs k = some i from hf))
    obtain ⟨c0, c1, c2, c3, c4, c5⟩ := H.out.cells i HI.out
    have fz := H.out.fz (i * 6 + 4)
    obtain ⟨ys, hp, hys⟩ := H.out.setU i HI.out
    have HP := Lib.hid hp
    have HTE := Lib.hid (TS.tb (F := gp :: gf :: F) (TB.set (g := gf) w (i * 6 + 4) (.bool true)) (by simp))
    have HY := Lib.hid (show R = ((some i, 0), plOf ys hand D) from by rw [hq]; unfold plOf; rw [hys])
    clear hq HR hf hi hp hys H
    generalize xs[i]'(HI.out) = x at *
    simp only [plPtr]
    go_wp2
    go_ret2
    rw [HY.out]
    exact ⟨rfl, PolR.of HP.out HTE.out, (fun j hj => by cases hj; exact HI.out)⟩
  | none =>
    have HRM := Lib.hid (pl_room H.out)
    have HRC := Lib.hid (plRoom_code n (plOf xs hand D))
    obtain ⟨S, hS⟩ : ∃ S, S = plRoom n (plOf xs hand D) := ⟨_, rfl⟩
    rw [← hS] at HRM HRC
    have HS := Lib.hid hS.symm
    have HF := Lib.hid (show plFind (plOf xs hand D).fs k = none from hf)
    clear hf hS
    obtain ⟨⟨so, se⟩, st1⟩ := S
    simp only [plPtr]
    go_wp2_with fail
    refine HRM.out.mono ?_
    rintro e w1 ⟨rfl, hres, hlt⟩
    obtain ⟨F1, ys, hp1, hys, hin, hts⟩ := hres
    have HP1 := Lib.hid hp1
    have HIN := Lib.hid hin
    have HTS := Lib.hid hts
    have HYS := Lib.hid hys
    have HLT := Lib.hid hlt
    clear hp1 hin hts hys hlt HRM H
    cases so with
    | none =>
      have hse : (se != 0) = true := by have := HRC.out.1 rfl; simpa using this
      have HQ := Lib.hid (HR.out.trans (plGet_full HO.out HF.out HS.out))
      simp only [plPtr]
      clear HR HS HF HRC
      go_wp2
      go_ret2
      rw [HQ.out]
      exact ⟨rfl, ⟨F1, ys, HP1.out, HYS.out, HIN.out, HTS.out⟩, (fun i hi => by cases hi)⟩
    | some i =>
      have hse : se = 0 := HRC.out.2 (by simp)
      subst hse
      have HI := Lib.hid (show i < xs.length from HLT.out i rfl)
      have HIY := Lib.hid (show i < ys.length from by have h1 := plRoom_len n (plOf xs hand D); rw [HS.out, ← HYS.out] at h1; simp only [List.length_map, plOf] at h1; rw [h1]; exact HI.out)
      have HQ := Lib.hid (HR.out.trans (plGet_load HO.out HF.out HS.out))
      simp only [plPtr]
      obtain ⟨p0, p1, p2⟩ := HP1.out.pcells
      have HL := Lib.hid (pg_Load HP1.out.dsk k)
      have HLL := Lib.hid (sdLoad_len HP1.out.dsk.ok k)
      generalize sdLoad st1.D n k = L at *
      obtain ⟨b, er, D2⟩ := L
      clear HR HS HF HRC HLT
      go_wp2_with fail
      refine HL.out.mono ?_
      rintro e w2 ⟨A, c, rfl, hrd, hfr, hdk, ht2, hbc, hcm⟩
      have HPD := Lib.hid (HP1.out.disk hdk (fun x hx => .inl hx) ht2)
      have HT2 := Lib.hid (show TS (gp :: gf :: F) w w2 from HTS.out.trans ht2 (fun x hx => (HIN.out x hx).imp (fun h => List.mem_cons_of_mem _ (List.mem_cons_of_mem _ h)) id))
      have HB := Lib.hid (And.intro hrd (And.intro hfr (And.intro hbc hcm)))
      clear hdk ht2 hrd hfr hbc hcm p0 p1 p2 HL
      by_cases he : er = 0
      · subst he
        have hbl : b.length = 4096 := HLL.out rfl
        have hq := HQ.out.trans (if_pos rfl)
        obtain ⟨hst, hpw, hmp⟩ := HPD.out.putF i HIY.out ⟨true, k, 0, false, false, b⟩ A c HB.out.1 HB.out.2.2.1 HB.out.2.2.2 (by show b.length ≤ _; rw [hbl]; omega) (fun ad ha => by
          subst ha
          have h1 := HB.out.2.1 ad rfl
          have hlt := HP1.out.lt
          exact ⟨rd_lt HB.out.1 (fun e => by rw [e] at hbl; cases hbl), (fun hm => by have := HP1.out.dsk.lt _ hm; omega), by omega, by omega⟩)
        obtain ⟨w3, hw3⟩ : ∃ w3 : World, w3 = w2.setRow gf (frFlat (ys.set i ⟨⟨true, k, 0, false, false, b⟩, A, c⟩)).toArray := ⟨_, rfl⟩
        rw [← hw3] at hst hpw
        have HP3 := Lib.hid hpw
        have HT3 := Lib.hid (show TS (gp :: gf :: F) w w3 from by rw [hw3]; exact HT2.out.then (TS.row _ gf w2 _ (by simp)))
        have HIZ := Lib.hid (show i < (ys.set i ⟨⟨true, k, 0, false, false, b⟩, A, c⟩).length from by rw [List.length_set]; exact HIY.out)
        obtain ⟨zs, hp4, hzs⟩ := HP3.out.setU i HIZ.out
        have fz := HP3.out.fz (i * 6 + 4)
        obtain ⟨-, -, -, -, c4, -⟩ := HP3.out.cells i HIZ.out
        have HP4 := Lib.hid hp4
        have HT4 := Lib.hid (show TS (gp :: gf :: F) w (w3.setCell ⟨gf, i * 6 + 4, none⟩ (.bool true)) from HT3.out.then (TS.tb (TB.set (g := gf) w3 (i * 6 + 4) (.bool true)) (by simp)))
        have HQ2 := Lib.hid (show R = ((some i, 0), plOf zs st1.hand D2) from by
          rw [hq]
          unfold plOf
          rw [hzs, hmp, HYS.out, List.getD_eq_getElem?_getD, List.getElem?_set_self (by rw [← HYS.out, List.length_map]; exact HIY.out), List.set_set]
          rfl)
        generalize (ys.set i ⟨⟨true, k, 0, false, false, b⟩, A, c⟩)[i]'(HIZ.out) = x at *
        clear hq hpw hmp hw3 hp4 hzs HP1 HPD HQ HB HLL HP3 HT3 HTS hbl
        go_wp2_with (refine wpList_store_by rfl _ _ _ rfl _ hst ?_)
        clear hst
        go_wp2
        go_ret2
        rw [HQ2.out]
        exact ⟨rfl, ⟨F1, zs, HP4.out, rfl, HIN.out, HT4.out⟩, (fun j hj => by cases hj; exact HI.out)⟩
      · have heb : (er != 0) = true := by simpa using he
        have HQ2 := Lib.hid (HQ.out.trans (if_neg he))
        clear he HQ
        go_wp2
        go_ret2
        rw [HQ2.out]
        exact ⟨rfl, ⟨F1, ys, HPD.out, HYS.out, HIN.out, HT2.out⟩, (fun i hi => by cases hi)⟩
end
end Go.Proofs.Ytoidlmhebnlnbaa
