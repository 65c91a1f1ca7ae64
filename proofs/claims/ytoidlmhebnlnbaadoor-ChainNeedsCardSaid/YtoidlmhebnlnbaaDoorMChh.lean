/- Walks and laws that the claim's last text stands on, several texts in one file: ChC, PgM, PgN. Under the hypotheses that each theorem states. -/
import Derived.Deep.DeepCutAuto
import Derived.Deep.CutRange
import Derived.Deep.CutBlock
import Derived.Defers
import Derived.Deep.Cut
import Derived.Test.YtoidlmhebnlnbaaDoorMCha
import Derived.Test.YtoidlmhebnlnbaaDoorMChb
import Derived.Test.YtoidlmhebnlnbaaDoorMChc
import Derived.Test.YtoidlmhebnlnbaaDoorMChd
import Derived.Test.YtoidlmhebnlnbaaDoorMChe
import Derived.Test.YtoidlmhebnlnbaaDoorMChf
import Derived.Test.YtoidlmhebnlnbaaDoorMChg
/- chain: the walk through Pages. -/
set_option linter.unusedVariables false
set_option linter.unusedSimpArgs false
namespace Go.Proofs.YtoidlmhebnlnbaaDoor
open Go.ChangeShapes Go.WideShapes Go.ChangeAt Go.RowKit
attribute [local go_sem] nb_nonneg nb_lt8 nb_lt64
set_option maxRecDepth 100000

/-- Slices in a row, each of them readable. -/
structure RowsIn (base : Nat) (w : World) (vs : List Value) (rows : List (List Byte)) : Prop where
  len : vs.length = rows.length
  each : ∀ i (h : i < rows.length), ∃ Ai ci, vs[i]? = some (.slice Ai rows[i].length ci) ∧ Rd w Ai rows[i] ∧ rows[i].length ≤ ci ∧ ci ≤ maxLen ∧ ∀ ad, Ai = some ad → base ≤ ad.block
theorem RowsIn.nil (base : Nat) (w : World) : RowsIn base w [] [] := ⟨rfl, fun i h => absurd h (by simp)⟩
theorem RowsIn.fb {base : Nat} {w w' : World} {vs : List Value} {rows : List (List Byte)} (h : RowsIn base w vs rows) (k : FB w w') : RowsIn base w' vs rows := ⟨h.len, fun i hi => by
  obtain ⟨A, c, h1, h2, h3⟩ := h.each i hi
  exact ⟨A, c, h1, k.rd h2, h3⟩⟩
theorem RowsIn.lower {base base' : Nat} {w : World} {vs : List Value} {rows : List (List Byte)} (h : RowsIn base w vs rows) (k : base' ≤ base) : RowsIn base' w vs rows := ⟨h.len, fun i hi => by
  obtain ⟨A, c, h1, h2, h3, h4, h5⟩ := h.each i hi
  exact ⟨A, c, h1, h2, h3, h4, fun ad ha => Nat.le_trans k (h5 ad ha)⟩⟩
theorem zeroI (w : World) : (zeroValue 3).run Tryd.prog w = .ok (.int .i64 0) w := by
  obtain ⟨i, hi, hz, hsz, hb⟩ := info_parts (show (Tryd.prog.info? 3).map (fun i => (i.zero, i.size, i.bytes)) = some (some (.int .i64 0), 1, 8) by kernel_rfl)
  simp [zeroValue, typeInfo, hi, hz]
theorem pg_built (k m : Int) (A : Option Addr) (n c : Nat) : Tryd.prog.built 45 [(0, .int .i64 k), (1, .int .u32 m), (2, .slice A n c)] = some #[.int .i64 k, .int .u32 m, .slice A n c] := by kernel_rfl
theorem ch_wpBuild {ops : Array Oper} {rest : List Oper} {o : Oper} {a : Act} {w : World} {Q : Exit → Act → World → Prop} (hg : o.guard = none) (parts : Array (Nat × Operand)) (ho : o.op = .build 45 parts) (k m : Int) (A : Option Addr) (n c : Nat)
    (hp : (parts.map fun (i, x) => (i, a.eval x)).toList = [(0, .int .i64 k), (1, .int .u32 m), (2, .slice A n c)])
    (h : wpList Tryd.prog ops Q rest (a.put o.dst (.agg #[.int .i64 k, .int .u32 m, .slice A n c])) w) : wpList Tryd.prog ops Q (o :: rest) a w := by
  refine wpList_build hg _ parts ho (by rw [hp, pg_built]; rfl) ?_
  rw [hp, pg_built]
  exact h
/-- What Pages returns. -/
def ChR (r : List (List Byte) × Int) (w : World) (e : Ending) (w' : World) : Prop :=
  ∃ A' c' vs, e = .returned (.tuple #[.slice A' r.1.length c', .int .i64 r.2]) ∧ RdV w' A' vs ∧ RowsIn w.heap.size w' vs r.1 ∧ r.1.length ≤ c' ∧ c' ≤ maxLen ∧ (∀ ad, A' = some ad → w.heap.size ≤ ad.block) ∧ FB w w'
/-- Slices in a row that lies at v: each of them readable, none in v's own block. -/
structure RowsO (base : Nat) (w : World) (v : Value) (vs : List Value) (rows : List (List Byte)) : Prop where
  len : vs.length = rows.length
  each : ∀ i (h : i < rows.length), ∃ Ai ci, vs[i]? = some (.slice Ai rows[i].length ci) ∧ Rd w Ai rows[i] ∧ rows[i].length ≤ ci ∧ ci ≤ maxLen ∧ ∀ ad, Ai = some ad → ad.block < w.heap.size ∧ some ad.block ≠ v.ownBlock ∧ base ≤ ad.block
theorem RowsO.nil (base : Nat) (w : World) (v : Value) : RowsO base w v [] [] := ⟨rfl, fun i h => absurd h (by simp)⟩
theorem RowsO.in {base : Nat} {w : World} {v : Value} {vs : List Value} {rows : List (List Byte)} (h : RowsO base w v vs rows) : RowsIn base w vs rows := ⟨h.len, fun i hi => by
  obtain ⟨A, c, h1, h2, h3, h4, h5⟩ := h.each i hi
  exact ⟨A, c, h1, h2, h3, h4, fun ad ha => (h5 ad ha).2.2⟩⟩
theorem RowsO.fb {base : Nat} {w w' : World} {v : Value} {vs : List Value} {rows : List (List Byte)} (h : RowsO base w v vs rows) (k : FB w w') : RowsO base w' v vs rows := ⟨h.len, fun i hi => by
  obtain ⟨A, c, h1, h2, h3, h4, h5⟩ := h.each i hi
  exact ⟨A, c, h1, k.rd h2, h3, h4, fun ad ha => ⟨Nat.lt_of_lt_of_le (h5 ad ha).1 k.le, (h5 ad ha).2⟩⟩⟩
/-- A row is appended. -/
theorem RowsO.snoc {base : Nat} {w w' : World} {v v' : Value} {vs : List Value} {rows : List (List Byte)} (h : RowsO base w v vs rows) (hg : w.grownBy w' v.ownBlock) (hn : v'.ownBlock = v.ownBlock ∨ v'.ownBlock = some w.heap.size)
    {A : Option Addr} {x : List Byte} {c : Nat} (hr : Rd w A x) (hc : x.length ≤ c) (hm : c ≤ maxLen) (hA : ∀ ad, A = some ad → ad.block < w.heap.size ∧ some ad.block ≠ v.ownBlock ∧ base ≤ ad.block) : RowsO base w' v' (vs ++ [.slice A x.length c]) (rows ++ [x]) := by
  have key : ∀ {Ai : Option Addr} {xs : List Byte}, Rd w Ai xs → (∀ ad, Ai = some ad → ad.block < w.heap.size ∧ some ad.block ≠ v.ownBlock ∧ base ≤ ad.block) → Rd w' Ai xs ∧ ∀ ad, Ai = some ad → ad.block < w'.heap.size ∧ some ad.block ≠ v'.ownBlock ∧ base ≤ ad.block := by
    intro Ai xs h1 h2
    refine ⟨RdV.move h1 fun a u e hc => ?_, fun ad ha => ⟨Nat.lt_of_lt_of_le (h2 ad ha).1 hg.size, ?_, (h2 ad ha).2.2⟩⟩
    · obtain ⟨ad, rfl⟩ : ∃ ad, Ai = some ad := by cases Ai with
        | none => cases e
        | some ad => exact ⟨ad, rfl⟩
      have := h2 ad rfl
      exact (World.cell?_of_block (hg.block a.block (by simp at e; rw [← e]; exact this.1) (by simp at e; rw [← e]; exact this.2.1))).trans hc
    · rcases hn with e | e
      · rw [e]; exact (h2 ad ha).2.1
      · rw [e]; intro hh; have := (h2 ad ha).1; simp only [Option.some.injEq] at hh; omega
  refine ⟨by simp [h.len], fun i hi => ?_⟩
  by_cases e : i < rows.length
  · obtain ⟨Ai, ci, h1, h2, h3, h4, h5⟩ := h.each i e
    rw [List.getElem_append_left e, List.getElem?_append_left (by rw [h.len]; exact e)]
    obtain ⟨k1, k2⟩ := key h2 h5
    exact ⟨Ai, ci, h1, k1, h3, h4, k2⟩
  · obtain rfl : i = rows.length := by simp at hi; omega
    rw [List.getElem_append_right (Nat.le_refl _), List.getElem?_append_right (by rw [h.len]; exact Nat.le_refl _)]
    simp only [h.len, Nat.sub_self, List.getElem?_cons_zero, List.getElem_cons_zero]
    obtain ⟨k1, k2⟩ := key hr hA
    exact ⟨A, c, rfl, k1, hc, hm, k2⟩
theorem pieces_in {w : World} {pb po : Nat} {b : List Byte} (hr : Rd w (some ⟨pb, po, none⟩) b) : RowsIn 0 w (chVs pb po b.length (List.range (chM b.length))) ((List.range (chM b.length)).map (chPart b)) := by
  refine ⟨by simp [chVs], fun i hi => ?_⟩
  simp only [List.length_map, List.length_range] at hi
  have hl := chPart_len b i hi
  refine ⟨some ⟨pb, po + 4074 * i, none⟩, chLen b.length i, ?_, ?_, ?_, ?_, fun _ _ => Nat.zero_le _⟩
  · simp only [chVs, List.getElem?_map, List.getElem?_range hi, Option.map_some, List.getElem_map, List.getElem_range, chItem, hl]
  · simp only [List.getElem_map, List.getElem_range]
    exact (hr.drop (4074 * i)).take 4074
  · simp only [List.getElem_map, List.getElem_range, hl]; exact Nat.le_refl _
  · unfold chLen; simp [maxLen]; omega
theorem one_in (w : World) {b : List Byte} (h : b.length = 0) : RowsIn 0 w [.slice none 0 0] ((List.range 1).map (chPart b)) := by
  obtain rfl := List.eq_nil_of_length_eq_zero h
  refine ⟨rfl, fun i hi => ?_⟩
  obtain rfl : i = 0 := by simp at hi; omega
  exact ⟨none, 0, rfl, Rd.nil _ _, Nat.le_refl _, by simp [maxLen], fun _ _ => Nat.zero_le _⟩
theorem chIs_ok {k : Int} (h : chIs k = true) : 1 ≤ k ∧ k ≤ 7 := by
  unfold chIs at h
  simp only [Bool.or_eq_true, beq_iff_eq] at h
  omega
theorem chNext_bd {ps : List Int} (h : chVal ps ps.length) (i : Nat) : 0 ≤ chNext ps i ∧ chNext ps i ≤ 4294967295 := by
  unfold chNext
  split
  · rename_i hi; have := h (i + 1) hi; omega
  · omega
set_option maxHeartbeats 8000000 in
theorem ch_Pages (kind : Int) (ps : List Int) (b : List Byte) (B A : Option Addr) (cb ca : Nat) (w : World) (hpl : ps.length ≤ 1000000) (hbl : b.length ≤ 1000000000) (hca : b.length ≤ ca) (hcm : ca ≤ maxLen) (hrp : RdV w B (ps.map (.int .i64))) (hra : Rd w A b) :
    Calls Tryd.prog 7 #[.int .i64 kind, .slice B ps.length cb, .slice A b.length ca] w fun e w' => ChR (chPages kind ps b) w e w' := by
  obtain ⟨R, hR⟩ : ∃ R, R = chPages kind ps b := ⟨_, rfl⟩
  rw [← hR]
  unfold chPages at hR
  have HRP := Lib.hid hrp
  have HRA := Lib.hid hra
  have HBL := Lib.hid (And.intro hbl hpl)
  have HCA := Lib.hid (And.intro hca hcm)
  have hmk := @run_makeMap Tryd.prog
  have HIS := Lib.hid (ch_isKind kind w)
  have HND := Lib.hid (fun w' : World => show Calls Tryd.prog 13 #[.int .i64 (b.length : Int)] w' fun e w'' => e = .returned (.int .i64 (chN b : Int)) ∧ w' = w'' from by rw [← chN_need]; exact ch_Need _ w' (by omega))
  clear hrp hra hbl hpl hca hcm
  by_cases hk : chIs kind = true
  · rw [hk] at HIS
    by_cases hN : ps.length = chN b
    · have hne : ((ps.length : Int) != (chN b : Int)) = false := by rw [hN]; simp
      obtain ⟨N, hNN⟩ : ∃ N, N = chN b := ⟨_, rfl⟩
      rw [← hNN] at HND hN hne
      have HNN := Lib.hid hNN
      have HN := Lib.hid hN
      have HK := Lib.hid hk
      have HR := Lib.hid hR
      clear hR hk hN hNN
      go_enter Tryd.func7, Tryd.ntmps7
      go_wp2_with fail
      refine HIS.out.mono ?_
      rintro e w1 ⟨rfl, rfl⟩
      go_wp2_with fail
      refine (HND.out w).mono ?_
      rintro e w1 ⟨rfl, rfl⟩
      clear HIS HND
      have HM0 := Lib.hid (MapAt.new w)
      have HF0 := Lib.hid ((FB.refl w).alloc (.map #[] 0))
      go_wp2_with fail
      obtain ⟨gm, hgm⟩ : ∃ gm, gm = w.heap.size := ⟨_, rfl⟩
      have HGM := Lib.hid hgm
      rw [← hgm] at HM0 ⊢
      generalize w.alloc (.map #[] 0) = w1 at *
      clear hgm hmk hne
      go_loopw [33] (fun s33 wr => ∃ j : Nat, j ≤ ps.length ∧ s33 = .int .i64 j ∧ Hid (chVal ps j) ∧ Hid (MapAt wr gm (chMp (ps.take j))) ∧ Hid (FB w wr)) (fun s33 _ => ps.length - (intOf s33).toNat)
      case atStart => exact ⟨0, by omega, rfl, Lib.hid (fun i h => by omega), HM0, HF0⟩
      case round =>
        clear HM0 HF0
        obtain ⟨j, hj, rfl, HV, HM, HF⟩ := hrel
        by_cases hlt : j < ps.length
        · have hjx : (j : Int) < (ps.length : Int) := by omega
          obtain ⟨pb, po, rfl, -, hcell⟩ := RdV.form (HF.out.rdV HRP.out) (by simp; omega)
          have hpj := hcell j (by simpa using hlt)
          rw [List.getElem_map, show ps[j] = ps.getD j 0 from by rw [List.getD_eq_getElem?_getD, List.getElem?_eq_getElem hlt]; rfl] at hpj
          have HTK := Lib.hid (show ps.take (j + 1) = ps.take j ++ [ps.getD j 0] from by rw [List.take_add_one, List.getD_eq_getElem?_getD, List.getElem?_eq_getElem hlt]; rfl)
          have hbad : (¬ (2 ≤ ps.getD j 0 ∧ ps.getD j 0 ≤ 4294967295 ∧ ps.getD j 0 ∉ ps.take j)) → R = ([], 2) := fun h => by rw [HR.out, if_neg (fun hc => h (hc.2.2 j hlt))]
          have HBAD := Lib.hid hbad
          have hstep := fun h1 h2 h3 => chVal_step HV.out (j := j) h1 h2 h3
          have HSTEP := Lib.hid hstep
          have HLT := Lib.hid hlt
          obtain ⟨x, hx⟩ : ∃ x, x = ps.getD j 0 := ⟨_, rfl⟩
          rw [← hx] at HTK HBAD HSTEP hpj
          have hwk : IntKind.i64.wrap ((j : Int) + 1) = (j : Int) + 1 := by rw [IntKind.wrap_i64]; have := HBL.out.2; omega
          clear hcell hbad hstep hx hlt hj
          by_cases h2 : x < 2
          · obtain rfl := HBAD.out (fun h => by omega)
            go_wp2_with fail
            go_ret2
            exact ⟨none, 0, [], rfl, RdV.nil _ _, RowsIn.nil _ _, Nat.le_refl _, by simp [maxLen], (fun _ h => by cases h), HF.out⟩
          · by_cases h3 : 4294967295 < x
            · obtain rfl := HBAD.out (fun h => by omega)
              go_wp2_with fail
              go_ret2
              exact ⟨none, 0, [], rfl, RdV.nil _ _, RowsIn.nil _ _, Nat.le_refl _, by simp [maxLen], (fun _ h => by cases h), HF.out⟩
            · have hlk := map_lookup Tryd.underlying47 Tryd.underlying3 HM.out x false (zeroI wr)
              rw [chMp_get] at hlk
              by_cases h4 : x ∈ ps.take j
              · obtain rfl := HBAD.out (fun h => h.2.2 h4)
                have hlk2 : (Instr.lookup 47 (.map (some gm)) (.int .i64 x) false).run Tryd.prog wr = .ok (.int .i64 1) wr := by rw [hlk, if_pos h4]; rfl
                clear hlk h4
                go_wp2_with fail
                go_ret2
                exact ⟨none, 0, [], rfl, RdV.nil _ _, RowsIn.nil _ _, Nat.le_refl _, by simp [maxLen], (fun _ h => by cases h), HF.out⟩
              · have hlk2 : (Instr.lookup 47 (.map (some gm)) (.int .i64 x) false).run Tryd.prog wr = .ok (.int .i64 0) wr := by rw [hlk, if_neg h4]; rfl
                obtain ⟨w2, hup, hm2, ht2⟩ := map_update Tryd.underlying47 Tryd.underlying3 HM.out x (.int .i64 1)
                rw [chMp_put _ _ h4, ← HTK.out] at hm2
                have HM2 := Lib.hid hm2
                have HF2 := Lib.hid (HF.out.tb ht2 (by rw [HGM.out]; exact Nat.le_refl _))
                have HV2 := Lib.hid (HSTEP.out (by omega) (by omega) h4)
                clear hlk h4 hm2 ht2
                go_wp2_with fail
                go_roundw
                case rel => exact ⟨j + 1, by have := HLT.out; omega, by go_num, HV2, HM2, HF2⟩
                case measure => (show ps.length - ((j : Int) + 1).toNat < ps.length - ((j : Int)).toNat; have := HLT.out; omega)
        · have hjx : ¬ (j : Int) < (ps.length : Int) := by omega
          obtain rfl : j = ps.length := by omega
          have HR2 := Lib.hid (show R = ((List.range N).map (chPage kind ps b), 0) from by rw [HR.out, if_pos ⟨HK.out, HN.out.trans HNN.out, HV.out⟩, HNN.out])
          clear hlt hj HM
          go_wp2_with fail
          refine (ch_Chunk A b.length ca wr).mono ?_
          rintro e w2 ⟨rfl, rfl⟩
          obtain ⟨pb, po, hA⟩ : ∃ pb po, 0 < b.length → A = some ⟨pb, po, none⟩ := by
            by_cases h : 0 < b.length
            · obtain ⟨pb, po, e, -, -⟩ := Rd.form HRA.out h
              exact ⟨pb, po, fun _ => e⟩
            · exact ⟨0, 0, fun hh => absurd hh h⟩
          have hF2 : FB wr ((wr.alloc (.cells #[.slice A b.length ca] 27)).alloc (.cells #[.int .i64 4074] 3)) := ((FB.refl wr).alloc _).alloc _
          have hBs : ((wr.alloc (.cells #[.slice A b.length ca] 27)).alloc (.cells #[.int .i64 4074] 3)).cell? ⟨wr.heap.size, 0, none⟩ = some (.slice A b.length ca) :=
            FB.cell ((FB.refl _).alloc _) (cell_of_row _ _ 0 _ _ _ (heap_alloc_new wr (.cells #[.slice A b.length ca] 27)))
          have hBn : ((wr.alloc (.cells #[.slice A b.length ca] 27)).alloc (.cells #[.int .i64 4074] 3)).cell? ⟨wr.heap.size + 1, 0, none⟩ = some (.int .i64 4074) := by
            have h := heap_alloc_new (wr.alloc (.cells #[.slice A b.length ca] 27)) (.cells #[.int .i64 4074] 3)
            rw [show (wr.alloc (.cells #[.slice A b.length ca] 27)).heap.size = wr.heap.size + 1 from by simp] at h
            exact cell_of_row _ _ 0 _ _ _ h
          have HCL := Lib.hid (ch_Collect A pb po ca b.length hA HBL.out.1 HCA.out.1 _ _ _ hBs hBn)
          have HF2 := Lib.hid (HF.out.trans hF2)
          have HAA := Lib.hid hA
          generalize (wr.alloc (.cells #[.slice A b.length ca] 27)).alloc (.cells #[.int .i64 4074] 3) = w2 at *
          clear hF2 hBs hBn hA HF
          go_wp2_with fail
          refine HCL.out.mono ?_
          rintro e w3 ⟨A3, c3, rfl, hv3, hb⟩
          have HF3 := Lib.hid (HF2.out.trans hb)
          have HV3 := Lib.hid hv3
          clear HCL HF2 hv3 hb
          obtain ⟨M, hM⟩ : ∃ M, M = chM b.length := ⟨_, rfl⟩
          rw [← hM] at HV3 ⊢
          have HMM := Lib.hid hM
          clear hM
          go_upto_if 57 with fail
          go_cut [11] from 58 to 58 (fun s11 wx => ∃ A4 c4 vs, s11 = .slice A4 N c4 ∧ Hid (RdV wx A4 vs) ∧ Hid (RowsIn 0 wx vs ((List.range N).map (chPart b))) ∧ Hid (FB w wx))
          case first =>
            by_cases h0 : b.length = 0
            · have hz : ((M : Int) == 0) = true := by rw [beq_iff_eq]; rw [HMM.out]; unfold chM; omega
              obtain rfl : N = 1 := by rw [HNN.out, chN_M, if_pos h0]
              have HB0 := Lib.hid h0
              clear h0
              go_wp2_with fail
              go_meet
              exact ⟨some ⟨w3.heap.size, 0, none⟩, 1, [.slice none 0 0], rfl, Lib.hid (RdV.lit w3 [.slice none 0 0] 27), Lib.hid (one_in _ HB0.out), Lib.hid (HF3.out.alloc _)⟩
            · have hz : ((M : Int) == 0) = false := by rw [beq_eq_false_iff_ne]; rw [HMM.out]; unfold chM; omega
              have hNM : N = M := by rw [HNN.out, chN_M, if_neg h0, HMM.out]
              have HB0 := Lib.hid h0
              have HNM := Lib.hid hNM
              clear h0 hNM
              go_wp2_with fail
              go_meet
              have hA := HAA.out (by have := HB0.out; omega)
              exact ⟨A3, c3, chVs pb po b.length (List.range M), by rw [HNM.out], HV3, Lib.hid (by rw [HNM.out, HMM.out]; exact pieces_in (HF3.out.rd (by rw [← hA]; exact HRA.out))), HF3⟩
          case rest =>
            obtain ⟨A4, c4, vs, rfl, HV4, HRW, HF4⟩ := hcut
            clear HV3 HF3 HMM
            generalize wc = wo at *
            go_wp2_with fail
            go_loopw [12, 61] (fun s12 s61 wr => ∃ (k : Nat) (us : List Value) (v12 : Value), k ≤ N ∧ s61 = .int .i64 k ∧ v12 = s12 ∧ Hid (OwnV 27 wr wo.heap.size v12 us) ∧ Hid (RowsO wo.heap.size wr v12 us ((List.range k).map (chPage kind ps b))) ∧ Hid (FB wo wr)) (fun _ s61 _ => N - (intOf s61).toNat)
            case atStart => exact ⟨0, [], _, by omega, rfl, rfl, Lib.hid (OwnV.nil _ _ _), Lib.hid (RowsO.nil _ _ _), Lib.hid (FB.refl _)⟩
            case round =>
              obtain ⟨k, us, v12, hk, rfl, rfl, HO, HU, HB⟩ := hrel
              by_cases hlt : k < N
              · have hkx : (k : Int) < (N : Int) := by omega
                obtain ⟨Ak, ck, g1, g2, g3, g4, -⟩ := HRW.out.each k (by simp; exact hlt)
                simp only [List.getElem_map, List.getElem_range] at g1 g2 g3
                obtain ⟨b4, o4, rfl, -, hcell⟩ := RdV.form (HB.out.rdV HV4.out) (by have := HRW.out.len; simp at this; omega)
                have hvk := hcell k (by have := HRW.out.len; simp at this; omega)
                rw [List.getElem?_eq_getElem (by have := HRW.out.len; simp at this; omega)] at g1
                rw [Option.some.inj g1] at hvk
                have HGK := Lib.hid (HB.out.rd g2)
                have HCK := Lib.hid (And.intro g3 g4)
                have HLT := Lib.hid hlt
                obtain ⟨pt, hpt⟩ : ∃ pt, pt = chPart b k := ⟨_, rfl⟩
                rw [← hpt] at hvk HGK HCK
                have HPT := Lib.hid hpt
                have HPL := Lib.hid (show pt.length ≤ 4074 from by rw [hpt]; exact chPart_le _ _)
                obtain ⟨nx, hnx⟩ : ∃ nx, nx = chNext ps k := ⟨_, rfl⟩
                have hnb := chNext_bd HV.out k
                rw [← hnx] at hnb
                have HNX := Lib.hid hnx
                have HNB := Lib.hid hnb
                have hw1 : IntKind.i64.wrap ((k : Int) + 1) = (k : Int) + 1 := by rw [IntKind.wrap_i64]; have := HBL.out.2; have := HN.out; omega
                clear hcell g1 g2 g3 g4 hpt hnx hnb hlt hk
                go_upto_if 70 with fail
                go_cut [15] from 71 to 75 (fun s15 wx => s15 = .int .i64 nx ∧ wx = wr)
                case first =>
                  clear hvk
                  by_cases h1 : k + 1 < ps.length
                  · have h1x : (k : Int) + 1 < (ps.length : Int) := by omega
                    obtain ⟨pq, pr, rfl, -, hcell⟩ := RdV.form ((HF4.out.trans HB.out).rdV HRP.out) (by simp; omega)
                    have hpj := hcell (k + 1) (by simpa using h1)
                    rw [List.getElem_map, show ps[k + 1] = nx from by rw [HNX.out]; unfold chNext; rw [if_pos h1, List.getD_eq_getElem?_getD, List.getElem?_eq_getElem h1]; rfl] at hpj
                    clear hcell
                    go_wp2_with fail
                    go_meet
                    exact ⟨rfl, rfl⟩
                  · have h1x : ¬ (k : Int) + 1 < (ps.length : Int) := by omega
                    have HZ := Lib.hid (show nx = 0 from by rw [HNX.out]; unfold chNext; rw [if_neg h1])
                    go_wp2_with fail
                    go_meet
                    exact ⟨by rw [HZ.out], rfl⟩
                case rest =>
                  obtain ⟨rfl, rfl⟩ := hcut
                  have hx64 : IntKind.u64.wrap nx = nb (BitVec.ofInt 64 nx) := by rw [nb_ofInt _ HNB.out.1 (by have := HNB.out.2; omega), IntKind.wrap_u64]; have := HNB.out; omega
                  have hp64 : IntKind.u64.wrap (pt.length : Int) = nb (BitVec.ofNat 64 pt.length) := by rw [nb_ofNat _ (by have := HPL.out; omega), IntKind.wrap_u64]; have := HPL.out; omega
                  have hk32 : IntKind.u32.wrap (k : Int) = nb (BitVec.ofNat 32 k) := by rw [nb_ofNat _ (by have := HLT.out; have := HN.out; have := HBL.out.2; omega), IntKind.wrap_u32]; have := HLT.out; have := HN.out; have := HBL.out.2; omega
                  clear hvk
                  go_wp2_with fail
                  refine (oct_Word [] none 0 0 (BitVec.ofInt 64 nx) 4 _ rfl (Nat.le_refl _) (by simp [maxLen]) (by simp) (Rd.nil _ _)).mono ?_
                  rintro e w5 ⟨v5, rfl, ho, hb⟩
                  rw [List.nil_append, show owordZ 4 (BitVec.ofInt 64 nx) = oword 4 (BitVec.ofInt 64 nx) from rfl] at ho
                  obtain ⟨A5, c5, rfl, o1, o2, o3, o4⟩ := Own.form ho
                  rw [oword_len] at o1 ⊢
                  have HF5 := Lib.hid (show FB wc w5 from hb)
                  have HO5 := Lib.hid (And.intro o1 (And.intro o2 o3))
                  clear ho hb o1 o2 o3 o4
                  go_wp2_with fail
                  refine (oct_Word (oword 4 (BitVec.ofInt 64 nx)) A5 4 c5 (BitVec.ofNat 64 pt.length) 2 _ (by rw [oword_len]) (by rw [oword_len]; exact HO5.out.1) HO5.out.2.1 (by rw [oword_len]; omega) HO5.out.2.2).mono ?_
                  rintro e w6 ⟨v6, rfl, ho, hb⟩
                  rw [show owordZ 2 (BitVec.ofNat 64 pt.length) = oword 2 (BitVec.ofNat 64 pt.length) from rfl] at ho
                  have HO6 := Lib.hid ho
                  have HF6 := Lib.hid (show FB wc w6 from HF5.out.trans hb)
                  have HB6 := Lib.hid (show w5.heap.size ≤ w6.heap.size from hb.size)
                  clear ho hb
                  have hx6 : (oword 4 (BitVec.ofInt 64 nx) ++ oword 2 (BitVec.ofNat 64 pt.length)).length = 6 := by simp [oword_len]
                  have HX6 := Lib.hid hx6
                  clear hx6
                  obtain ⟨bd, hbd⟩ : ∃ bd, bd = chBody ps b k := ⟨_, rfl⟩
                  have HCB := Lib.hid (show oword 4 (BitVec.ofInt 64 nx) ++ oword 2 (BitVec.ofNat 64 pt.length) ++ pt = bd from by rw [hbd, HNX.out, HPT.out]; rfl)
                  have HBL2 := Lib.hid (show bd.length ≤ 4080 from by rw [hbd, chBody_len, ← HPT.out]; have := HPL.out; omega)
                  obtain ⟨pg, hpg⟩ : ∃ pg, pg = chPage kind ps b k := ⟨_, rfl⟩
                  have HPB := Lib.hid (show pgB kind (BitVec.ofNat 32 k) bd = (pg, 0) from by
                    unfold pgB; rw [if_pos (pgOk_iff.2 ⟨(chIs_ok HK.out).1, (chIs_ok HK.out).2, HBL2.out⟩), hpg, hbd]; rfl)
                  have HPGL := Lib.hid (show pg.length = 4096 from by rw [hpg]; exact chPage_len kind ps b k)
                  have HRG := Lib.hid (show (List.range (k + 1)).map (chPage kind ps b) = (List.range k).map (chPage kind ps b) ++ [pg] from by rw [hpg, List.range_succ, List.map_append]; rfl)
                  clear hpg hbd
                  go_wp2_with (at_builtin; refine wpList_append_bytes rfl _ _ rfl w5.heap.size v6 _ HO6.out rfl Ak ck pt rfl (HF6.out.rd HGK.out) (by rw [HX6.out]; have := HPL.out; omega) HB6.out ?_; intro v7 w7 ho hg _; rw [HCB.out] at ho; obtain ⟨A8, c8, rfl, o1, o2, o3, -⟩ := Own.form ho; have HG7 := Lib.hid hg; have HO8 := Lib.hid (And.intro o1 (And.intro o2 o3)); clear ho hg o1 o2 o3)
                  have HF7 := Lib.hid (show FB wc w7 from HF6.out.grown HG7.out (fun q hq => Nat.le_trans HF5.out.le (HO6.out.base q hq).1))
                  clear HG7 HO6 HB6 HX6
                  have hpc := pg_Bytes kind (BitVec.ofNat 32 k) bd A8 c8 w7 (by have := HBL2.out; omega) HO8.out.2.2
                  rw [HPB.out] at hpc
                  have HPC := Lib.hid hpc
                  clear hpc
                  refine HPC.out.mono ?_
                  rintro e w8 ⟨A9, c9, rfl, ho, hb⟩
                  simp only at ho
                  rw [HPGL.out] at ho ⊢
                  have hi9 := Own.info ho
                  have HI9 := Lib.hid (And.intro hi9.1 (And.intro hi9.2.1 (And.intro hi9.2.2.1 hi9.2.2.2.2)))
                  have HF8 := Lib.hid (HF7.out.trans hb)
                  have HW78 := Lib.hid HF7.out.le
                  clear ho hb HPC hi9
                  have hus : us.length = k := by have := HU.out.len; simpa using this
                  have HUS := Lib.hid hus
                  clear hus
                  go_wp2_with (at_builtin; refine wpList_append_any rfl _ _ 22 27 24 (.slice none 0 0) Tryd.underlying22 info_sl rfl rfl wo.heap.size v12 us ((HF8.out.ownV HO.out).alloc _) rfl _ _ _ [.slice A9 4096 c9] rfl rfl (RdV.lit _ [.slice A9 4096 c9] _) (by simp [Value.oneCell']) (by simp [maxLen]; have := HUS.out; have := HLT.out; have := HN.out; have := HBL.out.2; omega) (by simp; have := HUS.out; have := HLT.out; have := HN.out; have := HBL.out.2; omega) (Nat.le_trans (HB.out.trans HF8.out).le (by simp)) ?_; intro v' w10 ho hg hown; have HO10 := Lib.hid ho; have HG10 := Lib.hid (And.intro hg hown); clear ho hg hown)
                  have HF10 := Lib.hid (show FB wo w10 from ((HB.out.trans HF8.out).alloc _).grown HG10.out.1 (fun q hq => (HO.out.base q hq).1))
                  have HU10 := Lib.hid (show RowsO wo.heap.size w10 v' (us ++ [.slice A9 4096 c9]) ((List.range (k + 1)).map (chPage kind ps b)) from by
                    have hl := HPGL.out
                    have h := ((HU.out.fb (HF8.out.alloc (.cells #[.slice A9 4096 c9] 27))).snoc (x := pg) HG10.out.1 HG10.out.2 (((FB.refl w8).alloc _).rd HI9.out.2.2.1) HI9.out.1 HI9.out.2.1 (fun ad ha => by
                      have h1 := HI9.out.2.2.2 ad ha
                      refine ⟨by simp; omega, fun hh => ?_, by have := HB.out.le; have := HW78.out; omega⟩
                      have h2 := (HO.out.base _ hh.symm).2
                      have h3 := HW78.out
                      omega))
                    rw [hl] at h
                    rw [HRG.out]; exact h)
                  have hl10 := HLT.out
                  go_roundw
                  case rel => exact ⟨k + 1, _, v', by omega, by go_num, rfl, HO10, HU10, HF10⟩
                  case measure => (show N - ((k : Int) + 1).toNat < N - ((k : Int)).toNat; omega)
              · have hkx : ¬ (k : Int) < (N : Int) := by omega
                obtain rfl : k = N := by omega
                obtain ⟨A', c', e1, o1, o2, o3, o4⟩ := OwnV.form HO.out
                have hul : us.length = k := by have := HU.out.len; simpa using this
                rw [e1, hul] at *
                have HO3 := Lib.hid (And.intro o1 (And.intro o2 o3))
                have HO4 := Lib.hid o4
                clear hlt hk hul o4
                obtain rfl := HR2.out
                go_wp2_with fail
                go_ret2
                exact ⟨A', c', us, by simp, HO3.out.2.2, RowsIn.lower HU.out.in HF4.out.le, by have := HO3.out.1; have := HU.out.len; simp at this ⊢; omega, HO3.out.2.1, (fun ad ha => Nat.le_trans HF4.out.le (HO4.out ad ha).1), HF4.out.trans HB.out⟩
    · have hne : ((ps.length : Int) != (chN b : Int)) = true := by simpa using (fun e => hN (by omega))
      rw [if_neg (fun h => hN h.2.1)] at hR
      subst hR
      clear hN hk
      generalize chN b = N at *
      go_enter Tryd.func7, Tryd.ntmps7
      go_wp2_with fail
      refine HIS.out.mono ?_
      rintro e w1 ⟨rfl, rfl⟩
      go_wp2_with fail
      refine (HND.out w).mono ?_
      rintro e w1 ⟨rfl, rfl⟩
      clear HIS HND
      go_wp2_with fail
      go_ret2
      exact ⟨none, 0, [], rfl, RdV.nil _ _, RowsIn.nil _ _, Nat.le_refl _, by simp [maxLen], (fun _ h => by cases h), FB.refl _⟩
  · rw [show chIs kind = false by simpa using hk] at HIS
    rw [if_neg (fun h => hk h.1)] at hR
    subst hR
    clear hk
    go_enter Tryd.func7, Tryd.ntmps7
    go_wp2_with fail
    refine HIS.out.mono ?_
    rintro e w1 ⟨rfl, rfl⟩
    clear HIS HND
    go_wp2_with fail
    go_ret2
    exact ⟨none, 0, [], rfl, RdV.nil _ _, RowsIn.nil _ _, Nat.le_refl _, by simp [maxLen], (fun _ h => by cases h), FB.refl _⟩
end Go.Proofs.YtoidlmhebnlnbaaDoor
/- page over a disk: the walks through Pages, right, Load, Save. -/
set_option linter.unusedVariables false
set_option linter.unusedSimpArgs false
namespace Go.Proofs.YtoidlmhebnlnbaaDoor
open Go.ChangeShapes Go.WideShapes Go.ChangeAt Go.RowKit Go.MapKept

theorem TS.grown {w w' : World} {row : Option Nat} (h : w.grownBy w' row) : TS row.toList w w' :=
  ⟨h.os, h.tape, h.output, h.size, fun k hk hm => h.block k hk (fun e => hm (by rw [← e]; simp))⟩
theorem div8 (n : Nat) : ((n : Int)).tdiv 8 = ((n / 8 : Nat) : Int) := by rw [Int.tdiv_eq_ediv_of_nonneg (by omega)]; omega
set_option maxRecDepth 100000 in
set_option maxHeartbeats 400000 in
theorem pg_Pages {w : World} {F : List Nat} {g n : Nat} {D : DiskSt} (h : Dsk w F g n D) :
    Calls Tryd.prog 30 #[.pointer (some ⟨g, 0, none⟩)] w fun e w' => e = .returned (.int .i64 ((n / 8 : Nat) : Int)) ∧ w = w' := by
  have H := Lib.hid h
  have hd := div8 n
  have hn := h.ok.n2
  have hwr : IntKind.i64.wrap (((n / 8 : Nat) : Int)) = ((n / 8 : Nat) : Int) := by rw [IntKind.wrap_i64]; omega
  clear h
  generalize hm : n / 8 = m at *
  clear hm
  go_enter Tryd.func30, Tryd.ntmps30
  go_wp2_with fail
  refine (dsk_Sectors H.out).mono ?_
  rintro e w1 ⟨rfl, rfl⟩
  go_wp2
  go_ret
  first | exact ⟨rfl, rfl⟩ | exact ⟨by simp [hd], rfl⟩
def pgOut (n : Nat) (k : Int) : Prop := k < 0 ∨ ((n / 8 : Nat) : Int) ≤ k
instance (n : Nat) (k : Int) : Decidable (pgOut n k) := inferInstanceAs (Decidable (_ ∨ _))
set_option maxRecDepth 100000 in
set_option maxHeartbeats 400000 in
theorem pg_right {w : World} {F : List Nat} {g n : Nat} {D : DiskSt} (h : Dsk w F g n D) (k : Int) :
    Calls Tryd.prog 73 #[.pointer (some ⟨g, 0, none⟩), .int .i64 k] w fun e w' => e = .returned (.int .i64 (if pgOut n k then 2 else 0)) ∧ w = w' := by
  have H := Lib.hid h
  have hn := h.ok.n1
  have hn0 : ((n : Int) == 0) = false := by simp; omega
  clear h
  by_cases hneg : k < 0
  · rw [if_pos (.inl hneg)]
    go_enter Tryd.func73, Tryd.ntmps73
    go_wp2_with fail
    refine (dsk_Sectors H.out).mono ?_
    rintro e w1 ⟨rfl, rfl⟩
    go_wp2
    go_ret
    exact ⟨rfl, rfl⟩
  · by_cases hbig : ((n / 8 : Nat) : Int) ≤ k
    · rw [if_pos (.inr hbig)]
      have HB := Lib.hid hbig
      clear hbig
      go_enter Tryd.func73, Tryd.ntmps73
      go_wp2_with fail
      refine (dsk_Sectors H.out).mono ?_
      rintro e w1 ⟨rfl, rfl⟩
      go_wp2_with fail
      refine (pg_Pages H.out).mono ?_
      rintro e w1 ⟨rfl, rfl⟩
      have hbig := HB.out
      generalize ((n / 8 : Nat) : Int) = m at *
      go_wp2
      go_ret
      exact ⟨rfl, rfl⟩
    · rw [if_neg (by unfold pgOut; omega)]
      have HB := Lib.hid hbig
      clear hbig
      go_enter Tryd.func73, Tryd.ntmps73
      go_wp2_with fail
      refine (dsk_Sectors H.out).mono ?_
      rintro e w1 ⟨rfl, rfl⟩
      go_wp2_with fail
      refine (pg_Pages H.out).mono ?_
      rintro e w1 ⟨rfl, rfl⟩
      have hbig := HB.out
      generalize ((n / 8 : Nat) : Int) = m at *
      go_wp2
      go_ret
      exact ⟨rfl, rfl⟩
/-- The sectors of a page, one by one. -/
def ldF (n : Nat) (k : Int) : Nat → Nat → List Byte → DiskSt → List Byte × Int × DiskSt
  | 0, _, out, D => (out, 0, D)
  | r + 1, i, out, D => if (sdRead D n (k * 8 + i)).2.1 = 0 then ldF n k r (i + 1) (out ++ (sdRead D n (k * 8 + i)).1) (sdRead D n (k * 8 + i)).2.2 else ([], (sdRead D n (k * 8 + i)).2.1, (sdRead D n (k * 8 + i)).2.2)
def sdLoad (D : DiskSt) (n : Nat) (k : Int) : List Byte × Int × DiskSt := if pgOut n k then ([], 2, D) else ldF n k 8 0 [] D
theorem sec_le (b : List Byte) (k : Nat) : (sec b k).length ≤ 512 := by unfold sec; rw [List.length_take]; omega
theorem cget_len {M : List (Int × List Byte)} {m : Nat} (hM : ∀ p ∈ M, p.2.length ≤ m) {k : Int} {x : List Byte} (h : cget M k = some x) : x.length ≤ m := by
  induction M with
  | nil => cases h
  | cons p M ih =>
    obtain ⟨k', v⟩ := p
    rw [cget] at h
    split at h
    · cases h; exact hM (k', x) (by simp)
    · exact ih (fun p hp => hM p (by simp [hp])) h
theorem sdRead_le {D : DiskSt} {n : Nat} (h : D.ok n) (k : Int) : (sdRead D n k).1.length ≤ 512 := by
  unfold sdRead
  split
  · simp
  · split
    · simp
    · simp only
      cases hc : cget D.M k with
      | none => exact sec_le _ _
      | some x => exact cget_len (fun p hp => by have := h.M p hp; omega) hc
set_option maxRecDepth 100000 in
set_option maxHeartbeats 2000000 in
theorem pg_Load {w : World} {F : List Nat} {g n : Nat} {D : DiskSt} (h : Dsk w F g n D) (k : Int) :
    Calls Tryd.prog 78 #[.pointer (some ⟨g, 0, none⟩), .int .i64 k] w fun e w' => ∃ A c, e = .returned (.tuple #[.slice A (sdLoad D n k).1.length c, .int .i64 (sdLoad D n k).2.1]) ∧ Rd w' A (sdLoad D n k).1 ∧ (∀ ad, A = some ad → w.heap.size ≤ ad.block) ∧ Dsk w' F g n (sdLoad D n k).2.2 ∧ TS F w w' ∧ (sdLoad D n k).1.length ≤ c ∧ c ≤ maxLen := by
  have H := Lib.hid h
  have HR := Lib.hid (pg_right h k)
  have HF := Lib.hid h.lt
  have HN := Lib.hid h.ok.n2
  obtain ⟨R, hR⟩ : ∃ R, R = sdLoad D n k := ⟨_, rfl⟩
  rw [← hR]
  unfold sdLoad at hR
  clear h
  by_cases ho : pgOut n k
  · rw [if_pos ho] at hR
    rw [if_pos ho] at HR
    subst hR
    clear ho
    go_enter Tryd.func78, Tryd.ntmps78
    go_wp2_with fail
    refine HR.out.mono ?_
    rintro e w1 ⟨rfl, rfl⟩
    go_wp2
    go_ret2
    exact ⟨none, 0, rfl, Rd.nil _ _, fun ad ha => (by cases ha), H.out, TS.refl _ _, by simp, by simp [maxLen]⟩
  · rw [if_neg ho] at hR
    rw [if_neg ho] at HR
    have HK := Lib.hid (show 0 ≤ k ∧ k < ((n / 8 : Nat) : Int) from by unfold pgOut at ho; omega)
    have HRR := Lib.hid hR
    clear ho hR
    go_enter Tryd.func78, Tryd.ntmps78
    go_wp2_with fail
    refine HR.out.mono ?_
    rintro e w1 ⟨rfl, rfl⟩
    go_wp2_with fail
    go_loopw [7, 17] (fun v i wr => ∃ (j : Nat) (out : List Byte) (D' : DiskSt), j ≤ 8 ∧ i = .int .i64 j ∧ Hid (out.length ≤ 512 * j) ∧ Hid (Own wr w.heap.size v out) ∧ Hid (Dsk wr F g n D') ∧ Hid (TS F w wr) ∧ Hid (R = ldF n k (8 - j) j out D')) (fun _ i _ => 8 - (intOf i).toNat)
    case atStart => exact ⟨0, [], D, by omega, rfl, Lib.hid (by simp), Lib.hid (Own.nil _ _), H, Lib.hid (TS.refl _ _), HRR⟩
    case round =>
      obtain ⟨j, out, D', hj, rfl, HOL, HO, HD, HT, HRJ⟩ := hrel
      by_cases hlt : j < 8
      · have hz : (j : Int) < 8 := by omega
        have hw1 : IntKind.i64.wrap (k * 8) = k * 8 := by rw [IntKind.wrap_i64]; have := HK.out; have := HN.out; omega
        have hw2 : IntKind.i64.wrap (k * 8 + (j : Int)) = k * 8 + (j : Int) := by rw [IntKind.wrap_i64]; have := HK.out; have := HN.out; omega
        have hw3 : IntKind.i64.wrap ((j : Int) + 1) = (j : Int) + 1 := by rw [IntKind.wrap_i64]; omega
        have HJ := Lib.hid hlt
        have hrj := HRJ.out
        rw [show 8 - j = (7 - j) + 1 from by omega, ldF] at hrj
        have HRJ2 := Lib.hid hrj
        have HRL := Lib.hid (sdRead_le HD.out.ok (k * 8 + (j : Int)))
        have HC := Lib.hid (dsk_Read HD.out (k * 8 + (j : Int)))
        generalize sdRead D' n (k * 8 + (j : Int)) = t at *
        obtain ⟨b, er, D2⟩ := t
        have HRL := Lib.hid (show b.length ≤ 512 from HRL.out)
        clear hlt hj hrj HRJ
        go_wp2_with fail
        refine HC.out.mono ?_
        rintro e w2 ⟨A9, c9, rfl, hr, hnew, hd, ht, hc9, hm9⟩
        try simp only at hr hd hc9
        have HR9 := Lib.hid hr
        have HD2 := Lib.hid hd
        have HT2 := Lib.hid (HT.out.then ht)
        have HOF := Lib.hid (OwnV.base HO.out)
        have HO2 := Lib.hid (ht.ownV HO.out (fun kk hk hm => by have h1 := (HOF.out kk hk).1; have := HF.out kk hm; omega))
        clear hr hnew hd ht hc9 hm9 HC HO HD HT
        by_cases he : er = 0
        · subst he
          have hrj := HRJ2.out
          rw [if_pos rfl] at hrj
          have HRJ3 := Lib.hid hrj
          clear hrj HRJ2
          go_wp2_with (at_builtin; refine wpList_append_bytes rfl _ _ rfl w.heap.size _ out HO2.out rfl A9 c9 b rfl HR9.out (by have := HRL.out; have := HOL.out; have := HJ.out; omega) HT2.out.size ?_; intro v' w3 ho hg hob; have HO3 := Lib.hid ho; have HG := Lib.hid hg; clear ho hg hob)
          have HD3 := Lib.hid (HD2.out.ts (TS.grown HG.out) (fun x hx hm => by have h1 := (HOF.out x (by simpa using hx)).1; have := HF.out x hm; omega))
          have HT3 := Lib.hid (HT2.out.trans (TS.grown HG.out) (fun x hx => .inr (HOF.out x (by simpa using hx)).1))
          go_roundw
          case rel => exact ⟨j + 1, out ++ b, D2, by have := HJ.out; omega, by go_num, Lib.hid (by rw [List.length_append]; have := HRL.out; have := HOL.out; omega), HO3, HD3, HT3, Lib.hid (by rw [show 8 - (j + 1) = 7 - j by omega]; exact HRJ3.out)⟩
          case measure => (show 8 - ((j : Int) + 1).toNat < 8 - ((j : Int)).toNat; have := HJ.out; omega)
        · have heb : (er != 0) = true := by simpa using he
          have hrj := HRJ2.out
          rw [if_neg he] at hrj
          have HRJ3 := Lib.hid hrj
          clear hrj HRJ2 he
          go_wp2
          go_ret2
          rw [HRJ3.out]
          exact ⟨none, 0, rfl, Rd.nil _ _, fun ad ha => (by cases ha), HD2.out, HT2.out, by simp, by simp [maxLen]⟩
      · obtain rfl : j = 8 := by omega
        have hq := HRJ.out
        rw [ldF] at hq
        have HQ := Lib.hid hq
        obtain ⟨A7, c7, rfl, h1, h2, h3, h4⟩ := Own.form HO.out
        have HE := Lib.hid (And.intro (And.intro h1 h2) (And.intro h3 h4))
        clear hq HRJ HO h1 h2 h3 h4
        go_wp2
        go_ret2
        rw [HQ.out]
        exact ⟨A7, c7, rfl, HE.out.2.1, fun ad ha => (HE.out.2.2 ad ha).1, HD.out, HT.out, HE.out.1.1, HE.out.1.2⟩
end Go.Proofs.YtoidlmhebnlnbaaDoor
/- page over a disk: the walk through Save. -/
set_option linter.unusedVariables false
set_option linter.unusedSimpArgs false
namespace Go.Proofs.YtoidlmhebnlnbaaDoor
open Go.ChangeShapes Go.WideShapes Go.ChangeAt Go.RowKit Go.MapKept

def svF (n : Nat) (k : Int) (xs : List Byte) : Nat → Nat → DiskSt → Int × DiskSt
  | 0, _, D => (0, D)
  | r + 1, i, D => if (sdWrite D n (k * 8 + i) (sec xs i)).1 = 0 then svF n k xs r (i + 1) (sdWrite D n (k * 8 + i) (sec xs i)).2 else sdWrite D n (k * 8 + i) (sec xs i)
def sdSave (D : DiskSt) (n : Nat) (k : Int) (xs : List Byte) : Int × DiskSt := if pgOut n k ∨ xs.length ≠ 4096 then (2, D) else svF n k xs 8 0 D
set_option maxRecDepth 100000 in
theorem pg_SaveD (p q : Addr) (v z : Int) (w : World) (hc : w.cell? p = some (.int .i64 v)) (hq : w.cell? q = some (.int .i64 z)) (hz : w.frozen? q = false) :
    CallsD Tryd.prog 74 #[.pointer (some p), .pointer (some q)] .returning w fun e u' w' => u' = .returning ∧ (e = .returned (.tuple #[]) ∧ w' = w.setCell q (.int .i64 v)) := by
  go_enter_d Tryd.func74, Tryd.ntmps74
  go_wp2
  go_end0
  exact ⟨rfl, rfl⟩
theorem row1 {W : World} {g : Nat} {a : Value} {t : TypeId} {fr : Nat × Nat} (h : W.heap[g]? = some (.cells #[a] t fr)) : W.cell? ⟨g, 0, none⟩ = some a := by rw [cell_of_row _ _ _ _ _ _ h]; rfl
set_option maxRecDepth 100000 in
theorem sv_door {w W : World} {F F2 : List Nat} {g n : Nat} {D2 : DiskSt} {er : Int} {a : Act} {R : Int × DiskSt} (hR : R = (er, D2))
    (h8 : W.heap[w.heap.size + 1]? = some (.cells #[.int .i64 er] 23 (0, 0))) (h6 : W.heap[w.heap.size]? = some (.cells #[.int .i64 0] 23 (0, 0)))
    (hd : Dsk W F2 g n D2) (hf : ∀ x ∈ F2, x ∈ F ∨ w.heap.size + 2 ≤ x) (hF : ∀ x ∈ F, x < w.heap.size) (ht : TS F w W)
    (ha : a.defers = [{ target := .fn (.func 74) #[.pointer (some ⟨w.heap.size + 1, 0, none⟩), .pointer (some ⟨w.heap.size, 0, none⟩)], args := #[] }]) (h6s : a.tmps[6]?.getD undef = .pointer (some ⟨w.heap.size, 0, none⟩)) :
    bodyPostD Tryd.prog Tryd.f56 (fun e w' => e = .returned (.int .i64 R.1) ∧ DskRes w F g n R.2 w') .ret a (W.setCell ⟨w.heap.size, 0, none⟩ (.int .i64 er)) := by
  subst hR
  show Leaves _ _ a.tmps _ a.defers .returning _
  rw [ha]
  refine leaves_cons (f := 74) (args := #[.pointer (some ⟨w.heap.size + 1, 0, none⟩), .pointer (some ⟨w.heap.size, 0, none⟩)]) (by simp) (by simp [go_sem]) ?_
  have hne : ∀ {U : World} {v : Value} , TS [w.heap.size] U (U.setCell ⟨w.heap.size, 0, none⟩ v) := fun {U v} => TS.tb (TB.set U 0 v) (by simp)
  have k6 : (W.setCell ⟨w.heap.size, 0, none⟩ (.int .i64 er)).heap[w.heap.size]? = some (.cells #[.int .i64 er] 23 (0, 0)) := by rw [heap_setCell_same _ _ 0 _ _ _ h6]; rfl
  have k8 := ((hne (U := W) (v := .int .i64 er)).block _ (Array.getElem?_eq_some_iff.1 h8).1 (by simp)).trans h8
  refine (pg_SaveD ⟨w.heap.size + 1, 0, none⟩ ⟨w.heap.size, 0, none⟩ er er _ (row1 k8) (row1 k6) (frozen_row _ k6 0)).mono ?_
  rintro e u' w'' ⟨rfl, rfl, rfl⟩
  have m6 : ((W.setCell ⟨w.heap.size, 0, none⟩ (.int .i64 er)).setCell ⟨w.heap.size, 0, none⟩ (.int .i64 er)).heap[w.heap.size]? = some (.cells #[.int .i64 er] 23 (0, 0)) := by rw [heap_setCell_same _ _ 0 _ _ _ k6]; rfl
  have hn : ∀ x ∈ [w.heap.size], x ∉ F2 := fun x hx hm => by
    simp only [List.mem_singleton] at hx; subst hx
    rcases hf _ hm with h | h
    · have := hF _ h; omega
    · omega
  refine ⟨.int .i64 er, ?_, rfl, F2, fun x hx => (hf x hx).imp id (fun h => by omega), (hd.ts hne hn).ts hne hn, (ht.trans hne (fun x hx => .inr (by simp at hx; omega))).trans hne (fun x hx => .inr (by simp at hx; omega))⟩
  have hc := row1 m6
  simp [results, Tryd.results56, go_sem, h6s, hc]
set_option maxRecDepth 100000 in
set_option maxHeartbeats 4000000 in
theorem pg_Save {w : World} {F : List Nat} {g n : Nat} {D : DiskSt} (h : Dsk w F g n D) (k : Int) (A : Option Addr) (ca : Nat) (xs : List Byte) (hl : xs.length ≤ 100000000000) (hca : xs.length ≤ ca) (hr : Rd w A xs) (hAF : ∀ ad, A = some ad → ad.block ∉ F) :
    Calls Tryd.prog 56 #[.pointer (some ⟨g, 0, none⟩), .int .i64 k, .slice A xs.length ca] w fun e w' => e = .returned (.int .i64 (sdSave D n k xs).1) ∧ DskRes w F g n (sdSave D n k xs).2 w' := by
  have hmf : ∀ (fn : Fn) (first cap : Array Value) (w : World), (Instr.makeFunc fn first cap).run Tryd.prog w = .ok (.func fn first cap) w := fun _ _ _ _ => rfl
  have HR := Lib.hid (pg_right (h.fb ((FB.refl w).alloc (.cells #[.int .i64 0] 23))) k)
  have HF := Lib.hid h.lt
  have HN := Lib.hid h.ok.n2
  have H0 := Lib.hid h
  have HX := Lib.hid hr
  have HAF := Lib.hid hAF
  obtain ⟨R, hR⟩ : ∃ R, R = sdSave D n k xs := ⟨_, rfl⟩
  rw [← hR]
  unfold sdSave at hR
  clear h hr hAF
  by_cases ho : pgOut n k
  · rw [if_pos (.inl ho)] at hR
    rw [if_pos ho] at HR
    subst hR
    clear ho hl hca
    go_enter_defers Tryd.func56, Tryd.ntmps56
    go_wp2_with fail
    refine HR.out.mono ?_
    rintro e w1 ⟨rfl, rfl⟩
    go_wp2
    refine ⟨.int .i64 2, ?_, rfl, F, fun x hx => .inl hx, H0.out.fb ((FB.refl w).alloc _), TS.of ((FB.refl w).alloc _)⟩
    simp [results, Tryd.results56, go_sem]
  · rw [if_neg ho] at HR
    have HK := Lib.hid (show 0 ≤ k ∧ k < ((n / 8 : Nat) : Int) from by unfold pgOut at ho; omega)
    by_cases hx : xs.length = 4096
    · rw [if_neg (by simp [ho, hx])] at hR
      have HRR := Lib.hid hR
      have HXL := Lib.hid hx
      have HCA := Lib.hid hca
      rw [hx]
      clear ho hR hx hca hl
      go_enter_defers Tryd.func56, Tryd.ntmps56
      go_wp2_with fail
      refine HR.out.mono ?_
      rintro e w1 ⟨rfl, rfl⟩
      go_wp2_with fail
      have HWA := Lib.hid (show FB w ((w.alloc (.cells #[.int .i64 0] 23)).alloc (.cells #[.int .i64 0] 23)) from ((FB.refl w).alloc _).alloc _)
      have HB6 := Lib.hid (show ((w.alloc (.cells #[.int .i64 0] 23)).alloc (.cells #[.int .i64 0] 23)).heap[w.heap.size]? = some (.cells #[.int .i64 0] 23 (0, 0)) from heap_alloc2_old _ _ _)
      have HB8 := Lib.hid (show ((w.alloc (.cells #[.int .i64 0] 23)).alloc (.cells #[.int .i64 0] 23)).heap[w.heap.size + 1]? = some (.cells #[.int .i64 0] 23 (0, 0)) from by
        have := heap_alloc_new (w.alloc (.cells #[.int .i64 0] 23)) (.cells #[.int .i64 0] 23)
        simpa using this)
      have HWS := Lib.hid (show ((w.alloc (.cells #[.int .i64 0] 23)).alloc (.cells #[.int .i64 0] 23)).heap.size = w.heap.size + 2 from by simp)
      have HD0 := Lib.hid (H0.out.fb HWA.out)
      have HX2 := Lib.hid (HWA.out.rd HX.out)
      have HXB := Lib.hid (show ∀ ad, A = some ad → ad.block < w.heap.size from fun ad ha => by
        obtain ⟨b, o, e2, h2, -⟩ := Rd.form HX.out (by have := HXL.out; omega)
        rw [ha] at e2; cases e2; exact h2)
      generalize (w.alloc (.cells #[.int .i64 0] 23)).alloc (.cells #[.int .i64 0] 23) = W2 at *
      go_loopw [20] (fun i wr => ∃ (j : Nat) (D' : DiskSt) (F' : List Nat), j ≤ 8 ∧ i = .int .i64 j ∧ Hid (Dsk wr F' g n D') ∧ Hid (∀ x ∈ F', x ∈ F ∨ w.heap.size + 2 ≤ x) ∧ Hid (TS ((w.heap.size + 1) :: F) W2 wr) ∧ Hid (wr.heap[w.heap.size + 1]? = some (.cells #[.int .i64 0] 23 (0, 0))) ∧ Hid (R = svF n k xs (8 - j) j D')) (fun i _ => 8 - (intOf i).toNat)
      case atStart => exact ⟨0, D, F, by omega, rfl, HD0, Lib.hid (fun x hx => .inl hx), Lib.hid (TS.refl _ _), HB8, HRR⟩
      case round =>
        obtain ⟨j, D', F', hj, rfl, HD, HFF, HT, HC8, HRJ⟩ := hrel
        have HWL := Lib.hid (show w.heap.size + 2 ≤ wr.heap.size from by have := HT.out.size; have := HWS.out; omega)
        have HN6 := Lib.hid (show w.heap.size ∉ (w.heap.size + 1) :: F from fun hm => by
          rcases List.mem_cons.1 hm with hm | hm
          · omega
          · have := HF.out _ hm; omega)
        have HC6 := Lib.hid ((HT.out.block _ (Array.getElem?_eq_some_iff.1 HB6.out).1 HN6.out).trans HB6.out)
        have HFN := Lib.hid (show w.heap.size ∉ F' ∧ w.heap.size + 1 ∉ F' from ⟨fun hm => by
            rcases HFF.out _ hm with hm | hm
            · have := HF.out _ hm; omega
            · omega, fun hm => by
            rcases HFF.out _ hm with hm | hm
            · have := HF.out _ hm; omega
            · omega⟩)
        by_cases hlt : j < 8
        · have hz : (j : Int) < 8 := by omega
          have HJ := Lib.hid hlt
          have hw1 : IntKind.i64.wrap (k * 8) = k * 8 := by rw [IntKind.wrap_i64]; have := HK.out; have := HN.out; omega
          have hw2 : IntKind.i64.wrap (k * 8 + (j : Int)) = k * 8 + (j : Int) := by rw [IntKind.wrap_i64]; have := HK.out; have := HN.out; omega
          have hw3 : IntKind.i64.wrap ((j : Int) + 1) = (j : Int) + 1 := by rw [IntKind.wrap_i64]; omega
          obtain ⟨kk, hkk⟩ : ∃ kk, kk = 512 * j := ⟨_, rfl⟩
          have hw4 : IntKind.i64.wrap ((j : Int) * 512) = (kk : Int) := by rw [IntKind.wrap_i64]; omega
          have hw5 : IntKind.i64.wrap (((j : Int) + 1) * 512) = (kk : Int) + 512 := by rw [IntKind.wrap_i64]; omega
          obtain ⟨A34, hcut, hcr, hcb⟩ := cut_at A ca xs kk 512 (by rw [HXL.out]; omega) HCA.out
          rw [HXL.out] at hcut
          have hcut : ∀ W, (Instr.slice 27 (.slice A 4096 ca) (some (.int .i64 (kk : Int))) (some (.int .i64 ((kk : Int) + 512))) none).run Tryd.prog W = .ok (.slice A34 512 (ca - kk)) W := hcut
          have hsl : (sec xs j).length = 512 := sec_len (n := 8) HXL.out hlt
          have hrs : Rd wr A34 (sec xs j) := by
            have := hcr wr (HT.out.rd HX2.out (fun ad ha hm => by
              rcases List.mem_cons.1 hm with hm | hm
              · have := HXB.out ad ha; omega
              · exact HAF.out ad ha hm))
            rw [hkk] at this
            exact this
          have hA34 : ∀ ad, A34 = some ad → ad.block < w.heap.size ∧ ad.block ∉ F := fun ad ha => by
            have hq := hcb (by have := HCA.out; have := HXL.out; omega)
            rw [hq] at ha
            cases A with
            | none => cases ha
            | some a0 =>
              have hb0 : ad.block = a0.block := by
                simp only [Option.map_some, Option.some.injEq] at ha
                rw [← ha]; unfold Addr.add; split <;> rfl
              rw [hb0]
              exact ⟨HXB.out a0 rfl, HAF.out a0 rfl⟩
          have HC := Lib.hid (dsk_Write HD.out (k * 8 + (j : Int)) A34 512 (ca - kk) (sec xs j) hsl.symm (by rw [hsl]; omega) hrs (fun ad ha hm => by
            rcases HFF.out _ hm with hm | hm
            · exact (hA34 ad ha).2 hm
            · have := (hA34 ad ha).1; omega))
          have hrj := HRJ.out
          rw [show 8 - j = (7 - j) + 1 from by omega, svF] at hrj
          have HRJ2 := Lib.hid hrj
          generalize sdWrite D' n (k * 8 + (j : Int)) (sec xs j) = t at *
          obtain ⟨er, D2⟩ := t
          clear hrj HRJ hcr hcb hsl hrs hA34 hkk hlt hj
          go_wp2_with fail
          refine HC.out.mono ?_
          rintro e w2 ⟨rfl, F2, hf2, hd2, ht2⟩
          have HD2 := Lib.hid hd2
          have HF2 := Lib.hid (show ∀ x ∈ F2, x ∈ F ∨ w.heap.size + 2 ≤ x from fun x hx => by
            rcases hf2 x hx with h | h
            · exact HFF.out x h
            · right; have := HWL.out; omega)
          have HT2 := Lib.hid (HT.out.trans ht2 (fun x hx => by
            rcases HFF.out x hx with h | h
            · exact .inl (List.mem_cons_of_mem _ h)
            · right; have := HWS.out; omega))
          have HC82 := Lib.hid ((ht2.block _ (Array.getElem?_eq_some_iff.1 HC8.out).1 HFN.out.2).trans HC8.out)
          have HC62 := Lib.hid ((ht2.block _ (Array.getElem?_eq_some_iff.1 HC6.out).1 HFN.out.1).trans HC6.out)
          have HFN2 := Lib.hid (show w.heap.size ∉ F2 ∧ w.heap.size + 1 ∉ F2 from ⟨fun hm => by
            rcases HF2.out _ hm with hm | hm
            · have := HF.out _ hm; omega
            · omega, fun hm => by
            rcases HF2.out _ hm with hm | hm
            · have := HF.out _ hm; omega
            · omega⟩)
          have q8 := row1 HC82.out
          have f8 := frozen_row _ HC82.out 0
          have HC83 := Lib.hid (show (w2.setCell ⟨w.heap.size + 1, 0, none⟩ (.int .i64 er)).heap[w.heap.size + 1]? = some (.cells #[.int .i64 er] 23 (0, 0)) from by
            rw [heap_setCell_same _ _ 0 _ _ _ HC82.out]; rfl)
          have HTB := Lib.hid (show TS [w.heap.size + 1] w2 (w2.setCell ⟨w.heap.size + 1, 0, none⟩ (.int .i64 er)) from TS.tb (TB.set w2 0 _) (by simp))
          have HC63 := Lib.hid ((HTB.out.block _ (Array.getElem?_eq_some_iff.1 HC62.out).1 (by simp)).trans HC62.out)
          have HD3 := Lib.hid (HD2.out.ts HTB.out (fun x hx => by simp only [List.mem_singleton] at hx; subst hx; exact HFN2.out.2))
          have HT3 := Lib.hid (HT2.out.trans HTB.out (fun x hx => by simp only [List.mem_singleton] at hx; subst hx; exact .inl (by simp)))
          clear hf2 hd2 ht2 HC hcut hw4 hw5 HD HT HC8 HC6 HD2 HT2 HC62 HFN HN6
          by_cases he : er = 0
          · subst he
            have hrj := HRJ2.out
            rw [if_pos rfl] at hrj
            have HRJ3 := Lib.hid hrj
            clear hrj HRJ2
            go_upto_region 12 with fail
            clear q8 f8
            have q8 := row1 HC83.out
            generalize w2.setCell ⟨w.heap.size + 1, 0, none⟩ (.int .i64 0) = w3 at *
            go_wp2
            go_roundw
            case rel => exact ⟨j + 1, D2, F2, by have := HJ.out; omega, by go_num, HD3, HF2, HT3, HC83, Lib.hid (by rw [show 8 - (j + 1) = 7 - j by omega]; exact HRJ3.out)⟩
            case measure => (show 8 - ((j : Int) + 1).toNat < 8 - ((j : Int)).toNat; have := HJ.out; omega)
          · have heb : (er != 0) = true := by simpa using he
            have hrj := HRJ2.out
            rw [if_neg he] at hrj
            have HRJ3 := Lib.hid hrj
            clear hrj HRJ2 he
            go_upto_region 12 with fail
            clear q8 f8
            have q8 := row1 HC83.out
            have q6 := row1 HC63.out
            have f6 := frozen_row _ HC63.out 0
            generalize w2.setCell ⟨w.heap.size + 1, 0, none⟩ (.int .i64 er) = w3 at *
            go_wp2
            exact sv_door HRJ3.out HC83.out HC63.out HD3.out HF2.out HF.out (by
              have h1 := (TS.of (F := F) HWA.out).trans HT3.out (fun x hx => by
                rcases List.mem_cons.1 hx with hx | hx
                · right; omega
                · exact .inl hx)
              exact h1) rfl rfl
        · obtain rfl : j = 8 := by omega
          have hq := HRJ.out
          rw [svF] at hq
          have HRJ3 := Lib.hid hq
          have q8 := row1 HC8.out
          have q6 := row1 HC6.out
          have f6 := frozen_row _ HC6.out 0
          have HC83 := HC8
          have HC63 := HC6
          have HFN2 := HFN
          have HF2 := HFF
          have HD3 := HD
          have HT3 := HT
          clear hq HRJ HFN HD HT HFF HC8 HC6
          go_wp2
          exact sv_door HRJ3.out HC83.out HC63.out HD3.out HF2.out HF.out (by
            have h1 := (TS.of (F := F) HWA.out).trans HT3.out (fun x hx => by
              rcases List.mem_cons.1 hx with hx | hx
              · right; omega
              · exact .inl hx)
            exact h1) rfl rfl
    · rw [if_pos (.inr hx)] at hR
      subst hR
      have hxe : ((xs.length : Int) != 4096) = true := by rw [bne_iff_ne]; omega
      clear ho hx hl hca
      go_enter_defers Tryd.func56, Tryd.ntmps56
      go_wp2_with fail
      refine HR.out.mono ?_
      rintro e w1 ⟨rfl, rfl⟩
      go_wp2
      refine ⟨.int .i64 2, ?_, rfl, F, fun x hx => .inl hx, H0.out.fb ((FB.refl w).alloc _), TS.of ((FB.refl w).alloc _)⟩
      simp [results, Tryd.results56, go_sem]
end Go.Proofs.YtoidlmhebnlnbaaDoor
