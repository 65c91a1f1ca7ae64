/- space: the walk through Read. -/
import Derived.Test.YtjhgnohofcahbaaSpH
import Derived.Test.YtjhgnohofcahbaaRdrE
set_option linter.unusedVariables false
set_option linter.unusedSimpArgs false
namespace Go.Proofs.Ytjhgnohofcahbaa
open Go.ChangeShapes Go.WideShapes Go.ChangeAt Go.RowKit
attribute [local go_sem] nb_nonneg nb_lt8
set_option maxRecDepth 100000

def rdN (b : List Byte) : Nat := (xword (b.take 4)).toNat
def rdU (b : List Byte) (n : Nat) : List Bool := (List.range n).map fun i => ((b.drop 4).getD (i / 8) 0#8).getLsbD (i % 8)
def rdK (b : List Byte) (n j : Nat) : List Bool := (List.range n).map fun i => decide (i < j) && ((b.drop 4).getD (i / 8) 0#8).getLsbD (i % 8)
theorem rdU_len (b : List Byte) (n : Nat) : (rdU b n).length = n := by simp [rdU]
theorem rdK_len (b : List Byte) (n j : Nat) : (rdK b n j).length = n := by simp [rdK]
theorem rdK_zero (b : List Byte) (n : Nat) : rdK b n 0 = List.replicate n false := by
  unfold rdK
  apply List.ext_getElem?
  intro i
  rw [List.getElem?_map, List.getElem?_replicate]
  by_cases h : i < n
  · rw [List.getElem?_range h, if_pos h]; simp
  · rw [List.getElem?_eq_none (by simpa using h), if_neg h]; rfl
theorem rdK_full (b : List Byte) (n : Nat) : rdK b n n = rdU b n := by
  unfold rdK rdU
  refine List.map_congr_left fun i hi => ?_
  simp [List.mem_range.1 hi]
theorem rdK_get {b : List Byte} {n j i : Nat} (h : i < n) : (rdK b n j)[i]? = some (decide (i < j) && ((b.drop 4).getD (i / 8) 0#8).getLsbD (i % 8)) := by
  unfold rdK; rw [List.getElem?_map, List.getElem?_range h]; rfl
theorem rdK_succ {b : List Byte} {n j : Nat} (h : j < n) : rdK b n (j + 1) = (rdK b n j).set j (((b.drop 4).getD (j / 8) 0#8).getLsbD (j % 8)) := by
  apply List.ext_getElem?
  intro i
  rw [List.getElem?_set]
  by_cases hi : i < n
  · rw [rdK_get hi]
    by_cases e : j = i
    · subst e; rw [if_pos rfl, if_pos (by rw [rdK_len]; exact hi)]; simp
    · rw [if_neg e, rdK_get hi, show decide (i < j + 1) = decide (i < j) from by simp only [decide_eq_decide]; omega]
  · rw [List.getElem?_eq_none (by rw [rdK_len]; omega)]
    by_cases e : j = i
    · omega
    · rw [if_neg e, List.getElem?_eq_none (by rw [rdK_len]; omega)]
def spRead (b : List Byte) : Int × List Bool × Int :=
  if 4 ≤ b.length ∧ 8 ≤ rdN b ∧ rdN b ≤ 4096 ∧ b.length = 4 + (rdN b + 7) / 8 ∧ spOk (rdN b) (rdU b (rdN b)) = true ∧ spBytes (rdN b) (rdU b (rdN b)) = b then (rdN b, rdU b (rdN b), 0) else (0, [], 4)
theorem spRead_bad {b : List Byte} {m : Nat} (hm : m = rdN b) (h : ¬ (4 ≤ b.length ∧ 8 ≤ m ∧ m ≤ 4096 ∧ b.length = 4 + (m + 7) / 8 ∧ spOk m (rdU b m) = true ∧ spBytes m (rdU b m) = b)) : Hid (spRead b = (0, [], 4)) := by subst hm; exact if_neg h
theorem spRead_ok {b : List Byte} {m : Nat} (hm : m = rdN b) (h : 4 ≤ b.length ∧ 8 ≤ m ∧ m ≤ 4096 ∧ b.length = 4 + (m + 7) / 8 ∧ spOk m (rdU b m) = true ∧ spBytes m (rdU b m) = b) : Hid (spRead b = ((m : Int), rdU b m, (0 : Int))) := by subst hm; exact if_pos h
theorem mk_boolsU (n : Nat) (hn : n ≤ 100000000) : ∃ C : Array Value,
    (∀ W : World, (Instr.makeSlice 39 (.int .u64 (n : Int)) (.int .u64 (n : Int))).run Try.prog W = .ok (.slice (some ⟨W.heap.size, 0, none⟩) n n) (W.alloc (.cells C 4))) ∧
    C = ((List.replicate n false).map Value.bool).toArray := by
  obtain ⟨i, hi, hz, hsz, hb⟩ := info_parts info_b
  refine ⟨madeCells #[.bool false] n, fun W => ?_, ?_⟩
  · have h := run_make (P := Try.prog) W 39 4 i _ Try.underlying39 hi hz .u64 .u64 (n : Int) (n : Int) (by omega) (Int.le_refl _) (by rw [hb]; omega) (by omega)
    rw [hsz] at h
    simpa [Value.cells] using h
  · rw [List.map_replicate, ← toList_madeCells_one]
theorem sfix_bad {b : List Byte} {L : Nat} (h4 : 4 ≤ b.length) (h : b.length ≠ 4 + L) : rend b (sfix b 4 0 (L : Int)).2.1 (sfix b 4 0 (L : Int)).2.2 ≠ 0 := by
  unfold sfix
  rw [if_pos rfl]
  by_cases h1 : (b.length : Int) - (4 : Nat) < L
  · rw [if_pos h1]; simp [rend]
  · rw [if_neg h1]; simp only [rend, Int.toNat_natCast]; rw [if_pos ⟨trivial, by omega⟩]; simp
theorem sfix_ok {b : List Byte} {L : Nat} (h : b.length = 4 + L) : sfix b 4 0 (L : Int) = (b.drop 4, 4 + L, 0) := by
  unfold sfix
  rw [if_pos rfl, if_neg (by omega), Int.toNat_natCast, List.take_of_length_le (by rw [List.length_drop]; omega)]
theorem bit_at (r : Nat) (h : r < 8) (x : BitVec 8) : (bits .and .u8 (nb x / (2 : Int) ^ r) 1 == 1) = x.getLsbD r := by
  have h1 : (2 : Int) ^ r = ((2 ^ r : Nat) : Int) := by simp
  rw [h1, nb_shr, show (1 : Int) = nb (1#8) from rfl, bits_and8, nb_beq]
  have h2 : ∀ (r : Fin 8) (x : BitVec 8), (x >>> r.1 &&& 1#8 == 1#8) = x.getLsbD r.1 := by decide
  exact h2 ⟨r, h⟩ x
set_option maxHeartbeats 4000000 in
theorem sp_Read (b : List Byte) (A : Option Addr) (c : Nat) (w : World) (hr : Rd w A b) (hl : b.length ≤ 100000000000000) :
    Calls Try.prog 23 #[.slice A b.length c] w fun e w' => SpR (spRead b) w e w' := by
  have HR := Lib.hid hr
  have hf0 := (FB.refl w).alloc (.cells #[.int .i64 0, .slice none 0 0] 41)
  have HF0 := Lib.hid hf0
  have HR0 := Lib.hid (heap_alloc_new w (.cells #[.int .i64 0, .slice none 0 0] 41))
  have hgs : (w.alloc (.cells #[.int .i64 0, .slice none 0 0] 41)).heap.size = w.heap.size + 1 := by simp
  have HGS := Lib.hid hgs
  clear hr hf0 hgs
  obtain ⟨m, hm⟩ : ∃ m, m = rdN b := ⟨_, rfl⟩
  have HM := Lib.hid hm
  clear hm
  go_enter Try.func23, Try.ntmps23
  go_wp2_with fail
  refine (oct_New b A _ c _ rfl (by omega) (HF0.out.rd HR.out)).mono ?_
  rintro e w1 ⟨g, rfl, hrd, hb⟩
  have HD1 := Lib.hid hrd
  have HF1 := Lib.hid (HF0.out.trans hb)
  have HRW1 := Lib.hid ((hb.block _ (Array.getElem?_eq_some_iff.1 HR0.out).1).trans HR0.out)
  have hg : w.heap.size + 1 ≤ g := by have := hrd.bg; rw [HGS.out] at this; exact this
  have HG := Lib.hid (show w.heap.size < g from by omega)
  clear hrd hb hg
  by_cases h4 : 4 ≤ b.length
  · have hcw := oct_RWord_ok HD1.out 4 (by simp) (by omega) hl
    rw [List.drop_zero, show nb (xword (b.take 4)) = ((rdN b : Nat) : Int) from rfl, ← HM.out, show ((4 : Nat) : Int) = 4 from rfl, Nat.zero_add] at hcw
    have HCW := Lib.hid hcw
    clear hcw
    go_wp2_with fail
    refine HCW.out.mono ?_
    rintro e w2 ⟨rfl, hrd, hb⟩
    have HD2 := Lib.hid hrd
    have HF2 := Lib.hid (HF1.out.grown hb (fun k hk => by cases hk; exact Nat.le_of_lt HG.out))
    have HRW2 := Lib.hid ((hb.block _ (Array.getElem?_eq_some_iff.1 HRW1.out).1 (by have := HG.out; simp; omega)).trans HRW1.out)
    clear hrd hb HCW
    go_wp2_with fail
    refine (oct_Err HD2.out).mono ?_
    rintro e w2' ⟨rfl, rfl⟩
    by_cases h8 : m < 8
    · have HSR := spRead_bad HM.out (by omega)
      have hz : (m : Int) < 8 := by omega
      have HRW := HRW2
      have HFC := HF2
      have hst := sp_store (.int .i64 0) (.slice none 0 0) HRW.out (by simp [Value.oneCell'])
      have HROW := Lib.hid (setRow_heap _ w.heap.size _ #[.int .i64 0, .slice none 0 0] _ _ HRW.out)
      have HEND := Lib.hid (HFC.out.setRow (g := w.heap.size) (Nat.le_refl _) #[.int .i64 0, .slice none 0 0])
      go_wp2_with (refine wpList_store_by rfl _ _ _ rfl _ hst ?_)
      try simp only [Exit.inBlock, Exit.then]
      refine bodyPost_ret (sp_ret rfl _ w.heap.size rfl _ HROW.out) rfl ?_
      rw [HSR.out]
      exact SpR.none 4 HEND.out
    · by_cases h9 : 4096 < m
      · have HSR := spRead_bad HM.out (by omega)
        have hz : ¬ (m : Int) < 8 := by omega
        have hz2 : 4096 < (m : Int) := by omega
        have HRW := HRW2
        have HFC := HF2
        have hst := sp_store (.int .i64 0) (.slice none 0 0) HRW.out (by simp [Value.oneCell'])
        have HROW := Lib.hid (setRow_heap _ w.heap.size _ #[.int .i64 0, .slice none 0 0] _ _ HRW.out)
        have HEND := Lib.hid (HFC.out.setRow (g := w.heap.size) (Nat.le_refl _) #[.int .i64 0, .slice none 0 0])
        go_wp2_with (refine wpList_store_by rfl _ _ _ rfl _ hst ?_)
        try simp only [Exit.inBlock, Exit.then]
        refine bodyPost_ret (sp_ret rfl _ w.heap.size rfl _ HROW.out) rfl ?_
        rw [HSR.out]
        exact SpR.none 4 HEND.out
      · have hz : ¬ (m : Int) < 8 := by omega
        have hz2 : ¬ 4096 < (m : Int) := by omega
        obtain ⟨L, hL⟩ : ∃ L, L = (m + 7) / 8 := ⟨_, rfl⟩
        have HL := Lib.hid hL
        have hq1 : ((m : Int) + 7).tdiv 8 = (L : Int) := by rw [Int.tdiv_eq_ediv_of_nonneg (by omega), hL]; omega
        have hq2 : ((m : Int) + 7) / 8 = (L : Int) := by rw [hL]; omega
        have hL2 : L ≤ 513 := by omega
        have hL0 : 1 ≤ L := by omega
        have hm2 : (m : Int) ≤ 4096 := by omega
        have hm3 : m ≤ 4096 := by omega
        have hm8 : 8 ≤ m := by omega
        clear hL h8 h9
        go_wp2_with fail
        refine (oct_sFixed HD2.out hl (L : Int) (by omega)).mono ?_
        by_cases hbl : b.length = 4 + L
        · rw [sfix_ok hbl]
          rintro e w3 ⟨A6, c6, rfl, hrd6, hA6, hrd, hb⟩
          replace hrd6 : Rd w3 A6 (b.drop 4) := hrd6
          have HD3 := Lib.hid hrd
          have HF3 := Lib.hid (HF2.out.grown hb (fun k hk => by cases hk; exact Nat.le_of_lt HG.out))
          have HRW3 := Lib.hid ((hb.block _ (Array.getElem?_eq_some_iff.1 HRW2.out).1 (by have := HG.out; simp; omega)).trans HRW2.out)
          have HR6 := Lib.hid hrd6
          have HA6 := Lib.hid (show ∀ ad, A6 = some ad → g < ad.block ∧ ad.block < w3.heap.size from fun ad ha => by have h1 := hA6 ad ha; have h2 := HD2.out.lt; omega)
          clear hrd hb hrd6 hA6
          have hcw := oct_End HD3.out hl
          simp only at hcw
          rw [show rend b (4 + L) 0 = 0 from by unfold rend; rw [if_neg (by omega)]] at hcw
          have HCW := Lib.hid hcw
          clear hcw
          simp only
          generalize hzs : b.drop 4 = zs at *
          have hzl : zs.length = L := by rw [← hzs, List.length_drop]; omega
          have HZS := Lib.hid hzs
          have HZL := Lib.hid hzl
          clear hzs hzl
          go_wp2_with fail
          refine HCW.out.mono ?_
          rintro e w4 ⟨rfl, hrd, hb⟩
          have HF4 := Lib.hid (HF3.out.grown hb (fun k hk => by cases hk; exact Nat.le_of_lt HG.out))
          have HRW4 := Lib.hid ((hb.block _ (Array.getElem?_eq_some_iff.1 HRW3.out).1 (by have := HG.out; simp; omega)).trans HRW3.out)
          have HR64 := Lib.hid (TB.rd hb HR6.out (fun ad ha => by have := HA6.out ad ha; omega))
          have HA64 := Lib.hid (show ∀ ad, A6 = some ad → ad.block < w4.heap.size from fun ad ha => by have h1 := HA6.out ad ha; have h2 := TB.le hb; omega)
          clear hrd hb HCW
          obtain ⟨C, hmk, hC⟩ := mk_boolsU m (by omega)
          have HO5 := Lib.hid (show OwnV 4 (w4.alloc (.cells C 4)) w4.heap.size (.slice (some ⟨w4.heap.size, 0, none⟩) m m) ((rdK b m 0).map .bool) from by
            have := OwnV.lit 4 w4 ((List.replicate m false).map .bool) (by rw [List.length_map, List.length_replicate]; simp [maxLen]; omega)
            rw [← hC, List.length_map, List.length_replicate] at this
            rw [rdK_zero]; exact this)
          have HF5 := Lib.hid (HF4.out.alloc (.cells C 4))
          have hF45 : FB w4 (w4.alloc (.cells C 4)) := (FB.refl w4).alloc _
          have HRW5 := Lib.hid ((hF45.block _ (Array.getElem?_eq_some_iff.1 HRW4.out).1).trans HRW4.out)
          have HR65 := Lib.hid (hF45.rd HR64.out)
          have HSZ5 := Lib.hid (show (w4.alloc (.cells C 4)).heap.size = w4.heap.size + 1 from by simp)
          clear hC hF45
          have hm0 : (0 : Int) ≤ (m : Int) := by omega
          go_wp2_with fail
          clear hmk
          generalize hw5 : w4.alloc (.cells C 4) = w5 at *
          clear hw5
          have HBX := Lib.hid (show (w5.alloc (.cells #[.int .i64 (m : Int), .slice (some ⟨w4.heap.size, 0, none⟩) m m] 41)).heap[w4.heap.size + 1]? = some (.cells #[.int .i64 (m : Int), .slice (some ⟨w4.heap.size, 0, none⟩) m m] 41 (0, 0)) from by
            rw [← HSZ5.out]; exact heap_alloc_new _ _)
          have hF56 : FB w5 (w5.alloc (.cells #[.int .i64 (m : Int), .slice (some ⟨w4.heap.size, 0, none⟩) m m] 41)) := (FB.refl w5).alloc _
          have HRW6 := Lib.hid ((hF56.block _ (Array.getElem?_eq_some_iff.1 HRW5.out).1).trans HRW5.out)
          have HR66 := Lib.hid (hF56.rd HR65.out)
          have HO6 := Lib.hid (HO5.out.alloc (.cells #[.int .i64 (m : Int), .slice (some ⟨w4.heap.size, 0, none⟩) m m] 41))
          have HF6 := Lib.hid (HF5.out.alloc (.cells #[.int .i64 (m : Int), .slice (some ⟨w4.heap.size, 0, none⟩) m m] 41))
          clear hF56
          have HLT4 := Lib.hid (show w.heap.size < w4.heap.size from (Array.getElem?_eq_some_iff.1 HRW4.out).1)
          obtain ⟨w6, hw6⟩ : ∃ w6 : World, w6 = w5.alloc (.cells #[.int .i64 (m : Int), .slice (some ⟨w4.heap.size, 0, none⟩) m m] 41) := ⟨_, rfl⟩
          rw [← hw6] at HBX HRW6 HR66 HO6 HF6 ⊢
          clear hw6
          obtain ⟨q0, q1⟩ := row2 HBX.out
          go_wp2_with fail
          clear q0 q1
          go_loopw [45] (fun c45 wr => ∃ j : Nat, j ≤ m ∧ c45 = .int .i64 j ∧ Hid (OwnV 4 wr w4.heap.size (.slice (some ⟨w4.heap.size, 0, none⟩) m m) ((rdK b m j).map .bool)) ∧ Hid (TS [w4.heap.size] w6 wr)) (fun c45 wr => m - (intOf c45).toNat)
          case atStart => exact ⟨0, by omega, rfl, HO6.out, TS.refl _ _⟩
          case round =>
            obtain ⟨j, hj, rfl, HOr, HT⟩ := hrel
            have HBXr := Lib.hid ((HT.out.block _ (Array.getElem?_eq_some_iff.1 HBX.out).1 (by simp)).trans HBX.out)
            by_cases hlt : j < m
            · have hjm : (j : Int) < (m : Int) := by omega
              have HR6r := Lib.hid (HT.out.rd HR66.out (fun ad ha hm => by have := HA64.out ad ha; simp at hm; omega))
              obtain ⟨a, ha⟩ : ∃ a, a = j / 8 := ⟨_, rfl⟩
              obtain ⟨r, hr⟩ : ∃ r, r = j % 8 := ⟨_, rfl⟩
              have hd1 : (j : Int).tdiv 8 = (a : Int) := by rw [Int.tdiv_eq_ediv_of_nonneg (by omega), ha]; omega
              have hd2 : (j : Int) / 8 = (a : Int) := by rw [ha]; omega
              have hm1 : (j : Int).tmod 8 = (r : Int) := by rw [Int.tmod_eq_emod_of_nonneg (by omega), hr]; omega
              have hm2' : (j : Int) % 8 = (r : Int) := by rw [hr]; omega
              have hr8 : r < 8 := by omega
              have haL : a < zs.length := by rw [HZL.out, ha, HL.out]; omega
              have hal : (a : Int) < (zs.length : Int) := by omega
              have hal2 : (a : Int) ≤ 513 := by omega
              have hrl2 : (r : Int) < 8 := by omega
              have hwa : IntKind.i64.wrap (a : Int) = (a : Int) := by rw [IntKind.wrap_i64]; omega
              have hwr : IntKind.i64.wrap (r : Int) = (r : Int) := by rw [IntKind.wrap_i64]; omega
              obtain ⟨b6, o6, rfl, -, hc6⟩ := Rd.form HR6r.out (by omega)
              have HC6 := Lib.hid (hc6 a haL)
              obtain ⟨x, hx⟩ : ∃ x, x = zs[a] := ⟨_, rfl⟩
              rw [← hx] at HC6
              have HX := Lib.hid (show rdK b m (j + 1) = (rdK b m j).set j (x.getLsbD r) from by
                rw [rdK_succ hlt, HZS.out, ← ha, ← hr, hx, List.getD_eq_getElem?_getD, List.getElem?_eq_getElem haL]; rfl)
              have hsh := bit_at r hr8 x
              clear hc6 hx ha hr
              unfold vb at HC6
              go_wp2_with fail
              obtain ⟨W0, hW0⟩ : ∃ W0 : World, W0 = wr := ⟨_, rfl⟩
              rw [← hW0]
              refine region_schL (E := FB) 14 ((0, true) :: (1, true) :: (2, true) :: (3, true) :: (4, true) :: (5, true) :: (6, true) :: (7, true) :: (8, true) :: (9, true) :: (10, true) :: (11, true) :: (12, true) :: (13, true) :: []) (by kernel_rfl) FB.refl fb_trans (fun _ _ d _ _ h => by cases d <;> exact h) (by kernel_rfl) ?_
              intro ops hops0
              have hops := Lib.hid hops0
              clear hops0
              have HF : FB W0 W0.drew := (FB.refl _).drew
              generalize W0.drew = wF at *
              have HFq := Lib.hid (show FB wr wF from by rw [← hW0]; exact HF)
              clear hW0 HF
              have HOq := Lib.hid (OwnV.below HOr.out HFq.out)
              have HBXq := Lib.hid ((HFq.out.block _ (Array.getElem?_eq_some_iff.1 HBXr.out).1).trans HBXr.out)
              have HC6q := Lib.hid (FB.cell HFq.out HC6.out)
              obtain ⟨s0, sf, sset⟩ := OwnV.cellset HOq.out (j := j) (by rw [List.length_map, rdK_len]; exact hlt)
              have HS0 := Lib.hid s0
              have HSF := Lib.hid sf
              have HSS := Lib.hid sset
              clear s0 sf sset
              repeat (refine sch_take (o := ?_) (v := ?_) (a' := ?_) (at_of hops.out ?_) ?_ (fun W hW => ?_) ?_ ?_; rotate_left 3; (focus (simp only [List.getElem?_toArray, List.getElem?_cons_zero, List.getElem?_cons_succ]; rfl)); (focus (rw [hops.out]; rfl)); (focus (have u1 := (row2 ((FB.block hW _ (Array.getElem?_eq_some_iff.1 HBXq.out).1).trans HBXq.out)).2; have u2 := FB.cell hW HC6q.out; go_simp; with_reducible rfl)); (focus (simp only [Act.put, List.setIfInBounds_toArray, List.set_cons_zero, List.set_cons_succ]; rfl)))
              repeat (refine sch_take (o := ?_) (v := ?_) (a' := ?_) (at_of hops.out ?_) ?_ (fun W hW => ?_) ?_ ?_; rotate_left 3; (focus (simp only [List.getElem?_toArray, List.getElem?_cons_zero, List.getElem?_cons_succ]; rfl)); (focus (rw [hops.out]; rfl)); (focus (have u1 := (row2 ((FB.block hW _ (Array.getElem?_eq_some_iff.1 HBXq.out).1).trans HBXq.out)).2; have u2 := FB.cell hW HC6q.out; go_simp; with_reducible rfl)); (focus (simp only [Act.put, List.setIfInBounds_toArray, List.set_cons_zero, List.set_cons_succ]; rfl)))
              have u3 := HS0.out
              have u4 := HSF.out
              (refine schL_store (o := ?_) (w' := wF.setCell ⟨w4.heap.size, j, none⟩ (.bool (x.getLsbD r))) (at_of hops.out ?_) ?_ 4 (.tmp 61) (.tmp 60) ?_ (.pointer (some ⟨w4.heap.size, j, none⟩)) (.bool (x.getLsbD r)) ?_ ?_ ?_ ?_; rotate_left 1; (focus (simp only [List.getElem?_toArray, List.getElem?_cons_zero, List.getElem?_cons_succ]; rfl)); (focus (rw [hops.out]; rfl)); (focus rfl); (focus rfl); (focus rfl); (focus (go_simp)))
              have HO3 := Lib.hid (show OwnV 4 (wF.setCell ⟨w4.heap.size, j, none⟩ (.bool (x.getLsbD r))) w4.heap.size (.slice (some ⟨w4.heap.size, 0, none⟩) m m) ((rdK b m (j + 1)).map .bool) from by
                rw [HX.out, List.map_set]; exact HSS.out _)
              have HT2 := Lib.hid ((HT.out.then (TS.of HFq.out)).then (show TS [w4.heap.size] wF (wF.setCell ⟨w4.heap.size, j, none⟩ (.bool (x.getLsbD r))) from TS.tb (TB.set wF j _) (by simp)))
              clear u3 u4 hops hsh
              go_wp2
              go_roundw
              case rel => exact ⟨j + 1, by omega, by go_num, HO3.out, HT2.out⟩
              case measure => simp [intOf]; omega
            · obtain rfl : j = m := by omega
              have hjj : ¬ (j : Int) < (j : Int) := by omega
              have HUO := Lib.hid (show OwnV 4 wr w4.heap.size (.slice (some ⟨w4.heap.size, 0, none⟩) j j) ((rdU b j).map .bool) from by rw [← rdK_full]; exact HOr.out)
              have HFr := Lib.hid (FB.ts HF6.out HT.out (fun x hx => by have := HLT4.out; simp at hx; omega))
              have HRWr := Lib.hid ((HT.out.block _ (Array.getElem?_eq_some_iff.1 HRW6.out).1 (by have := HLT4.out; simp; omega)).trans HRW6.out)
              have HUL := Lib.hid (rdU_len b j)
              have hcw := sp_Bytes (j : Int) (rdU b j) (some ⟨w4.heap.size, 0, none⟩) j wr (OwnV.info HUO.out).2.2.1 (by rw [rdU_len]; omega)
              rw [rdU_len] at hcw
              obtain ⟨q0, q1⟩ := row2 HBXr.out
              by_cases hok : spOk (j : Int) (rdU b j) = true
              · unfold spBytesR at hcw
                rw [if_pos hok] at hcw
                have HCW := Lib.hid hcw
                clear hcw
                generalize hys : spBytes (j : Int) (rdU b j) = ys at *
                have HYS := Lib.hid hys
                have HOK := Lib.hid hok
                clear hys hok
                go_wp2_with fail
                refine HCW.out.mono ?_
                rintro e w9 ⟨A9, c9, rfl, hr9, hc9, hm9, hb⟩
                have HF9 := Lib.hid (HFr.out.trans hb)
                have HRW9 := Lib.hid ((hb.block _ (Array.getElem?_eq_some_iff.1 HRWr.out).1).trans HRWr.out)
                have HBX9 := Lib.hid ((hb.block _ (Array.getElem?_eq_some_iff.1 HBXr.out).1).trans HBXr.out)
                have HU9 := Lib.hid (OwnV.below HUO.out hb)
                replace hr9 : Rd w9 A9 ys := hr9
                have hs1 := run_string c9 hr9
                have hs2 := run_string c (HF9.out.rd HR.out)
                clear hb q0 q1 HCW
                rw [hbl] at hs2
                by_cases hyb : ys = b
                · have HSR := spRead_ok HM.out ⟨h4, hm8, hm3, by rw [hbl, HL.out], HOK.out, by rw [HYS.out]; exact hyb⟩
                  have HYB := Lib.hid hyb
                  have hse : ((sb ys).toList == (sb b).toList) = true := by rw [sb_beq]; simpa using hyb
                  clear hyb
                  obtain ⟨q0, q1⟩ := row2 HBX9.out
                  have hst := sp_store (.int .i64 (j : Int)) (.slice (some ⟨w4.heap.size, 0, none⟩) j j) HRW9.out (by simp [Value.oneCell'])
                  have HROW := Lib.hid (setRow_heap _ w.heap.size _ #[.int .i64 (j : Int), .slice (some ⟨w4.heap.size, 0, none⟩) j j] _ _ HRW9.out)
                  have HEND := Lib.hid (HF9.out.setRow (g := w.heap.size) (Nat.le_refl _) #[.int .i64 (j : Int), .slice (some ⟨w4.heap.size, 0, none⟩) j j])
                  have HOE := Lib.hid (OwnV.info ((TS.tb (F := [w.heap.size]) (TB.setRow w.heap.size w9 #[.int .i64 (j : Int), .slice (some ⟨w4.heap.size, 0, none⟩) j j]) (by simp)).ownV HU9.out (fun b hb' hm => by cases hb'; have := HLT4.out; simp at hm; omega)))
                  go_wp2_with (refine wpList_store_by rfl _ _ _ rfl _ hst ?_)
                  try simp only [Exit.inBlock, Exit.then]
                  refine bodyPost_ret (sp_ret rfl _ w.heap.size rfl _ HROW.out) rfl ?_
                  rw [HSR.out]
                  refine ⟨some ⟨w4.heap.size, 0, none⟩, j, ?_, HOE.out.2.2.1, ?_, HOE.out.2.1, HEND.out⟩
                  · simp only [rdU_len]; rfl
                  · simp only [rdU_len]; omega
                · have HSR := spRead_bad HM.out (fun h => hyb (by rw [← HYS.out]; exact h.2.2.2.2.2))
                  have hse : ((sb ys).toList == (sb b).toList) = false := by rw [sb_beq]; simpa using hyb
                  clear hyb
                  have HRW := HRW9
                  have HFC := HF9
                  have hst := sp_store (.int .i64 0) (.slice none 0 0) HRW.out (by simp [Value.oneCell'])
                  have HROW := Lib.hid (setRow_heap _ w.heap.size _ #[.int .i64 0, .slice none 0 0] _ _ HRW.out)
                  have HEND := Lib.hid (HFC.out.setRow (g := w.heap.size) (Nat.le_refl _) #[.int .i64 0, .slice none 0 0])
                  go_wp2_with (refine wpList_store_by rfl _ _ _ rfl _ hst ?_)
                  try simp only [Exit.inBlock, Exit.then]
                  refine bodyPost_ret (sp_ret rfl _ w.heap.size rfl _ HROW.out) rfl ?_
                  rw [HSR.out]
                  exact SpR.none 4 HEND.out
              · unfold spBytesR at hcw
                rw [if_neg hok] at hcw
                have HSR := spRead_bad HM.out (fun h => hok h.2.2.2.2.1)
                have HCW := Lib.hid hcw
                clear hcw hok
                go_wp2_with fail
                refine HCW.out.mono ?_
                rintro e w9 ⟨A9, c9, rfl, hr9, hc9, hm9, hb⟩
                have HFC := Lib.hid (HFr.out.trans hb)
                have HRW := Lib.hid ((hb.block _ (Array.getElem?_eq_some_iff.1 HRWr.out).1).trans HRWr.out)
                clear hb q0 q1 HCW
                have hst := sp_store (.int .i64 0) (.slice none 0 0) HRW.out (by simp [Value.oneCell'])
                have HROW := Lib.hid (setRow_heap _ w.heap.size _ #[.int .i64 0, .slice none 0 0] _ _ HRW.out)
                have HEND := Lib.hid (HFC.out.setRow (g := w.heap.size) (Nat.le_refl _) #[.int .i64 0, .slice none 0 0])
                go_wp2_with (refine wpList_store_by rfl _ _ _ rfl _ hst ?_)
                try simp only [Exit.inBlock, Exit.then]
                refine bodyPost_ret (sp_ret rfl _ w.heap.size rfl _ HROW.out) rfl ?_
                rw [HSR.out]
                exact SpR.none 4 HEND.out
        · have hbad := sfix_bad h4 hbl
          have HSR := spRead_bad HM.out (fun h => hbl (by rw [HL.out]; exact h.2.2.2.1))
          generalize sfix b 4 0 (L : Int) = sf at *
          obtain ⟨l6, k6, e6⟩ := sf
          rintro e w3 ⟨A6, c6, rfl, hrd6, hA6, hrd, hb⟩
          have HD3 := Lib.hid hrd
          have HF3 := Lib.hid (HF2.out.grown hb (fun k hk => by cases hk; exact Nat.le_of_lt HG.out))
          have HRW3 := Lib.hid ((hb.block _ (Array.getElem?_eq_some_iff.1 HRW2.out).1 (by have := HG.out; simp; omega)).trans HRW2.out)
          clear hrd hb hrd6 hA6
          simp only at hbad
          go_wp2_with fail
          refine (oct_End HD3.out hl).mono ?_
          rintro e w4 ⟨rfl, hrd, hb⟩
          have HF4 := Lib.hid (HF3.out.grown hb (fun k hk => by cases hk; exact Nat.le_of_lt HG.out))
          have HRW4 := Lib.hid ((hb.block _ (Array.getElem?_eq_some_iff.1 HRW3.out).1 (by have := HG.out; simp; omega)).trans HRW3.out)
          clear hrd hb
          simp only
          generalize rend b k6 e6 = er at *
          have hne : (er != 0) = true := by simpa using hbad
          clear hbad
          have HRW := HRW4
          have HFC := HF4
          have hst := sp_store (.int .i64 0) (.slice none 0 0) HRW.out (by simp [Value.oneCell'])
          have HROW := Lib.hid (setRow_heap _ w.heap.size _ #[.int .i64 0, .slice none 0 0] _ _ HRW.out)
          have HEND := Lib.hid (HFC.out.setRow (g := w.heap.size) (Nat.le_refl _) #[.int .i64 0, .slice none 0 0])
          go_wp2_with (refine wpList_store_by rfl _ _ _ rfl _ hst ?_)
          try simp only [Exit.inBlock, Exit.then]
          refine bodyPost_ret (sp_ret rfl _ w.heap.size rfl _ HROW.out) rfl ?_
          rw [HSR.out]
          exact SpR.none 4 HEND.out
  · have HSR := spRead_bad HM.out (fun h => h4 h.1)
    have hcw := oct_RWord_more HD1.out 4 (by simp) (by omega) hl
    rw [show ((4 : Nat) : Int) = 4 from rfl] at hcw
    have HCW := Lib.hid hcw
    clear hcw
    go_wp2_with fail
    refine HCW.out.mono ?_
    rintro e w2 ⟨rfl, hrd, hb⟩
    have HD2 := Lib.hid hrd
    have HF2 := Lib.hid (HF1.out.grown hb (fun k hk => by cases hk; exact Nat.le_of_lt HG.out))
    have HRW2 := Lib.hid ((hb.block _ (Array.getElem?_eq_some_iff.1 HRW1.out).1 (by have := HG.out; simp; omega)).trans HRW1.out)
    clear hrd hb HCW
    go_wp2_with fail
    refine (oct_Err HD2.out).mono ?_
    rintro e w2' ⟨rfl, rfl⟩
    have HRW := HRW2
    have HFC := HF2
    have hst := sp_store (.int .i64 0) (.slice none 0 0) HRW.out (by simp [Value.oneCell'])
    have HROW := Lib.hid (setRow_heap _ w.heap.size _ #[.int .i64 0, .slice none 0 0] _ _ HRW.out)
    have HEND := Lib.hid (HFC.out.setRow (g := w.heap.size) (Nat.le_refl _) #[.int .i64 0, .slice none 0 0])
    go_wp2_with (refine wpList_store_by rfl _ _ _ rfl _ hst ?_)
    try simp only [Exit.inBlock, Exit.then]
    refine bodyPost_ret (sp_ret rfl _ w.heap.size rfl _ HROW.out) rfl ?_
    rw [HSR.out]
    exact SpR.none 4 HEND.out
end Go.Proofs.Ytjhgnohofcahbaa
